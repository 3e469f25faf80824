/- The law ProtocolTextMatchesReference: for every input that can be read it returns true, and its arguments read as before. Condition: the listed package variables lie as the program's text lays them (tied). -/
import Derived.Test.YteilaajjpjhijaaDoorCd
import Derived.Test.YteilaajjpjhijaaDoorL4
import Derived.ChangeMaps5
namespace Go.Proofs.YteilaajjpjhijaaDoor
open Go.ChangeShapes Go.WideShapes Go.ChangeAt Go.WideElems Go.RowKit PSpec
set_option maxRecDepth 100000
theorem text_lifted (os : Os) (started : os.Started) (H : Type) (enc : TypeId × Value → H) :
    ReturnsInHanded {} Tryd.checked os 4 .any (fun w args => (Rows.protocolTextMatchesReferenceSpec.pre enc Tryd.prog Tryd.f4 [] false w args ∧ laidMetH Tryd.prog laidL w) ∧ sizedMet enc Tryd.prog Tryd.f4 (OpenSpec.ofChange Rows.protocolTextMatchesReferenceSpec) false w args)
      (Rows.protocolTextMatchesReferenceSpec.post enc Tryd.prog Tryd.f4 false true false false) := by
  refine returnsInHanded_of_change_and (C := Tryd.checked) (X := fun w _ => laidMetH Tryd.prog laidL w) (fun _ _ _ hh h => h.of_heap hh) cOwn started (by kernel_rfl) Tryd.func4
    (ChangeSpec.witness_shaped (enc := enc) (C := Tryd.checked) (os := os) (X := fun w _ => laidMetH Tryd.prog laidL w) false (World.doorLaid Tryd.prog 62 os) #[.agg #[.slice none 0 0], .slice none 0 0, .string ⟨#[]⟩, .int .i64 0, .int .u8 0] 8 rfl (World.shaped_of_RefB (by kernel_rfl) (by kernel_rfl)) (by kernel_rfl) (by kernel_rfl) (by kernel_rfl) (cDoor os _)) ?_
  intro W base args ds gs before hval0 hW _ _ hL _
  have hval : ∀ (j : Nat) t v, Tryd.f4.params[j]? = some t → args[j]? = some v → Value.okWide Tryd.prog W .any base t v := hval0
  have hW' := hW
  obtain ⟨p, q, hA0, hV, rfl, hfz, hnd⟩ := hW
  have hA : DataW.TrodAll enc Tryd.prog W 0 (fun _ => true) true Tryd.f4.params.toList args.toList ds p := hA0
  rw [Tryd.params4] at hA hval
  obtain ⟨v0, vs0, d0, ds0, p0, q0, ha0, rfl, rfl, h0, hA⟩ := trodAll_cons hA
  obtain ⟨v1, vs1, d1, ds1, p1, q1, rfl, rfl, rfl, h1, hA⟩ := trodAll_cons hA
  obtain ⟨v2, vs2, d2, ds2, p2, q2, rfl, rfl, rfl, h2, hA⟩ := trodAll_cons hA
  obtain ⟨v3, vs3, d3, ds3, p3, q3, rfl, rfl, rfl, h3, hA⟩ := trodAll_cons hA
  obtain ⟨v4, vs4, d4, ds4, p4, q4, rfl, rfl, rfl, h4, hA⟩ := trodAll_cons hA
  obtain ⟨rfl, rfl, rfl⟩ := trodAll_nil hA
  obtain ⟨rfl, rfl⟩ := trodVars_none hV
  obtain rfl : args = #[v0, v1, v2, v3, v4] := Array.toList_inj.1 ha0
  obtain ⟨s2, rfl, rfl, rfl, i2⟩ := Go.ChangeMaps.open_string Tryd.underlying9 (hval 2 9 v2 rfl rfl) h2
  obtain ⟨n3, rfl, rfl, rfl, i3⟩ := open_int Tryd.underlying3 (hval 3 3 v3 rfl rfl) h3
  obtain ⟨n4, rfl, rfl, rfl, i4⟩ := open_int Tryd.underlying5 (hval 4 5 v4 rfl rfl) h4
  obtain ⟨n, hx⟩ := open_xs (hval 1 25 v1 rfl rfl) h1
  obtain ⟨pv, pr, rfl, hp⟩ := open_raw (hval 0 24 v0 rfl rfl) h0
  have hlt : ∀ x ∈ p0 ++ (p1 ++ []), x.block < W.heap.size := fun x hxm => by
    have := hW'.lt x (by simp at hxm ⊢; exact hxm)
    simpa using this
  have hS : ((s2.data.toList).length : Int) ≤ 9223372036854775807 := by
    have := i2
    rw [Lib.size_eq] at this
    unfold maxLen at this
    omega
  have hcb : 0 ≤ n4 ∧ n4 < 256 := by
    have := i4
    simp [Lit.wf, IntKind.min, IntKind.max, IntKind.bits, IntKind.signed] at this
    omega
  have hf := f4_any pv v1 pr n s2.data.toList n3 n4 W (lay_of hL) hp hx hS (i64_wf i3) hcb.1 hcb.2
  rw [bsA_of] at hf
  refine hf.mono ?_
  rintro e W' ⟨rfl, hb⟩
  have hargs : DataW.TrodAll enc Tryd.prog W' 0 (fun b => decide (b < W.heap.size)) true [24, 25, 9, 3, 5] [.agg #[pv], v1, .string s2, .int .i64 n3, .int .u8 n4] [d0, d1, .lit (.string s2.data.toList), .lit (.int .i64 n3), .lit (.int .u8 n4)] (p0 ++ (p1 ++ ([] ++ ([] ++ ([] ++ []))))) :=
    ⟨_, _, trod_keep (by kernel_rfl) (of_decide_eq_true (by kernel_rfl)) h0 hb (fun x hx => hlt x (List.mem_append_left _ hx)), ⟨_, _, trod_keep (by kernel_rfl) (of_decide_eq_true (by kernel_rfl)) h1 hb (fun x hx => hlt x (List.mem_append_right _ (List.mem_append_left _ hx))), ⟨_, _, Go.ChangeMaps.shut_string Tryd.underlying9 i2, ⟨_, _, shut_int Tryd.underlying3 i3, ⟨_, _, shut_int Tryd.underlying5 i4, rfl, rfl⟩, rfl⟩, rfl⟩, rfl⟩, rfl⟩
  exact ⟨_, rfl, _, _, _, [], _, [], hW', trodAll_mk1 (shut_bool Tryd.underlying4 _), hargs, rfl, hb.frame _, fun h => by cases h⟩
theorem text_holds : Rows.ProtocolTextMatchesReferenceSaid :=
  OpenClaim.holds_of_wide 4 Tryd.f4 rfl rfl rfl rfl rfl rfl rfl ⟨rfl, rfl, rfl, rfl, rfl⟩ rfl rfl rfl rfl rfl (by kernel_rfl) Tryd.func4 (by kernel_rfl)
    (of_decide_eq_true (by kernel_rfl)) (by unfold Func.isWrapper; first | (rw [if_pos (by decide +kernel)]; kernel_rfl) | (rw [if_neg (by decide +kernel)]; exact ⟨rfl, rfl⟩))
    (fun os started H enc _ => text_lifted os started H enc)
theorem text_card : Rows.ProtocolTextMatchesReferenceCardSaid :=
  Claim7.holds_tied_plain_at .later [] [.data, .data, .data, .sentinel, .sentinel] true (true, "8ae08c8d36f55f05ab247582d284a0a31e39fe2d8b439a83113a66530c4432ae") true
    text_holds (fun _ h => by cases h) (by kernel_rfl) (fun _ h => by cases h) protocolTextMatchesReference_row_tie rfl ⟨rfl, rfl⟩ (by kernel_rfl) rfl
    (fun f fn hf hfn => by
      obtain rfl : f = 4 := Option.some.inj ((show Tryd.prog.funcNamed "latecomer/latecomerlaw13.ProtocolTextMatchesReference" = some 4 by kernel_rfl).symm.trans hf) |>.symm
      obtain rfl : fn = Tryd.f4 := (Option.some.inj (Tryd.func4.symm.trans hfn)).symm
      exact ⟨by kernel_rfl, fun j t ht => by
        rw [Tryd.params4] at ht
        have hm : t ∈ [24, 25, 9, 3, 5] := by simpa using Array.mem_of_getElem? ht
        have hall : ([24, 25, 9, 3, 5].all fun u => !Tryd.prog.wantsStandIn u) = true := by kernel_rfl
        exact (show Tryd.prog.wantsStandIn t = false by simpa using List.all_eq_true.1 hall t hm)⟩)
    (by kernel_rfl)
#print axioms text_card
end Go.Proofs.YteilaajjpjhijaaDoor
