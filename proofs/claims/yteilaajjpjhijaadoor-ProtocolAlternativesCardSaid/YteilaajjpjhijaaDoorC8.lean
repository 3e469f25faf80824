/- The law ProtocolAlternatives: for every input that can be read it returns true, and its arguments read as before. Condition: the listed package variables lie as the program's text lays them (tied). -/
import Derived.Test.YteilaajjpjhijaaDoorCd
import Derived.Test.YteilaajjpjhijaaDoorL8
namespace Go.Proofs.YteilaajjpjhijaaDoor
open Go.ChangeShapes Go.WideShapes Go.ChangeAt Go.WideElems Go.RowKit PSpec
set_option maxRecDepth 100000
theorem alternatives_lifted (os : Os) (started : os.Started) (H : Type) (enc : TypeId × Value → H) :
    ReturnsInHanded {} Tryd.checked os 8 .any (fun w args => (Rows.protocolAlternativesSpec.pre enc Tryd.prog Tryd.f8 [] false w args ∧ laidMetH Tryd.prog laidL w) ∧ sizedMet enc Tryd.prog Tryd.f8 (OpenSpec.ofChange Rows.protocolAlternativesSpec) false w args)
      (Rows.protocolAlternativesSpec.post enc Tryd.prog Tryd.f8 false true false false) := by
  refine returnsInHanded_of_change_and (C := Tryd.checked) (X := fun w _ => laidMetH Tryd.prog laidL w) (fun _ _ _ hh h => h.of_heap hh) cOwn started (by kernel_rfl) Tryd.func8
    (ChangeSpec.witness_shaped (enc := enc) (C := Tryd.checked) (os := os) (X := fun w _ => laidMetH Tryd.prog laidL w) false (World.doorLaid Tryd.prog 62 os) #[.slice none 0 0, .int .i64 0, .slice none 0 0, .slice none 0 0] 8 rfl (World.shaped_of_RefB (by kernel_rfl) (by kernel_rfl)) (by kernel_rfl) (by kernel_rfl) (by kernel_rfl) (cDoor os _)) ?_
  intro W base args ds gs before hval0 hW _ _ hL _
  have hval : ∀ (j : Nat) t v, Tryd.f8.params[j]? = some t → args[j]? = some v → Value.okWide Tryd.prog W .any base t v := hval0
  have hW' := hW
  obtain ⟨p, q, hA0, hV, rfl, hfz, hnd⟩ := hW
  have hA : DataW.TrodAll enc Tryd.prog W 0 (fun _ => true) true Tryd.f8.params.toList args.toList ds p := hA0
  rw [Tryd.params8] at hA hval
  obtain ⟨v0, vs0, d0, ds0, p0, q0, ha0, rfl, rfl, h0, hA⟩ := trodAll_cons hA
  obtain ⟨v1, vs1, d1, ds1, p1, q1, rfl, rfl, rfl, h1, hA⟩ := trodAll_cons hA
  obtain ⟨v2, vs2, d2, ds2, p2, q2, rfl, rfl, rfl, h2, hA⟩ := trodAll_cons hA
  obtain ⟨v3, vs3, d3, ds3, p3, q3, rfl, rfl, rfl, h3, hA⟩ := trodAll_cons hA
  obtain ⟨rfl, rfl, rfl⟩ := trodAll_nil hA
  obtain ⟨rfl, rfl⟩ := trodVars_none hV
  obtain rfl : args = #[v0, v1, v2, v3] := Array.toList_inj.1 ha0
  have w1 := h1
  obtain ⟨n1, rfl, rfl, rfl, i1⟩ := open_int Tryd.underlying3 (hval 1 3 v1 rfl rfl) h1
  obtain ⟨n, hx⟩ := open_xs (hval 0 25 v0 rfl rfl) h0
  obtain ⟨n2, hz⟩ := open_xs (hval 3 25 v3 rfl rfl) h3
  obtain ⟨ys, hy⟩ := open_ys (hval 2 26 v2 rfl rfl) h2
  have hlt : ∀ x ∈ p0 ++ (p2 ++ (p3 ++ [])), x.block < W.heap.size := fun x hxm => by
    have := hW'.lt x (by simp at hxm ⊢; exact hxm)
    simpa using this
  refine (f8_any v0 v2 v3 n n2 n1 ys W (lay_of hL) hx hy (i64_wf i1) hz).mono ?_
  rintro e W' ⟨rfl, hb⟩
  have hargs : DataW.TrodAll enc Tryd.prog W' 0 (fun b => decide (b < W.heap.size)) true [25, 3, 26, 25] [v0, .int .i64 n1, v2, v3] [d0, .lit (.int .i64 n1), d2, d3] (p0 ++ ([] ++ (p2 ++ (p3 ++ [])))) :=
    ⟨_, _, trod_keep (by kernel_rfl) (of_decide_eq_true (by kernel_rfl)) h0 hb (fun x hx => hlt x (List.mem_append_left _ hx)), ⟨_, _, shut_int Tryd.underlying3 i1, ⟨_, _, trod_keep (by kernel_rfl) (of_decide_eq_true (by kernel_rfl)) h2 hb (fun x hx => hlt x (List.mem_append_right _ (List.mem_append_left _ hx))), ⟨_, _, trod_keep (by kernel_rfl) (of_decide_eq_true (by kernel_rfl)) h3 hb (fun x hx => hlt x (List.mem_append_right _ (List.mem_append_right _ (List.mem_append_left _ hx)))), rfl, rfl⟩, rfl⟩, rfl⟩, rfl⟩
  exact ⟨_, rfl, _, _, _, [], _, [], hW', trodAll_mk1 (shut_bool Tryd.underlying4 _), hargs, rfl, hb.frame _, fun h => by cases h⟩
theorem alternatives_holds : Rows.ProtocolAlternativesSaid :=
  OpenClaim.holds_of_wide 8 Tryd.f8 rfl rfl rfl rfl rfl rfl rfl ⟨rfl, rfl, rfl, rfl, rfl⟩ rfl rfl rfl rfl rfl (by kernel_rfl) Tryd.func8 (by kernel_rfl)
    (of_decide_eq_true (by kernel_rfl)) (by unfold Func.isWrapper; first | (rw [if_pos (by decide +kernel)]; kernel_rfl) | (rw [if_neg (by decide +kernel)]; exact ⟨rfl, rfl⟩))
    (fun os started H enc _ => alternatives_lifted os started H enc)
theorem alternatives_card : Rows.ProtocolAlternativesCardSaid :=
  Claim7.holds_tied_plain_at .later [] [.data, .data, .data, .sentinel, .sentinel] true (true, "8ae08c8d36f55f05ab247582d284a0a31e39fe2d8b439a83113a66530c4432ae") true
    alternatives_holds (fun _ h => by cases h) (by kernel_rfl) (fun _ h => by cases h) protocolAlternatives_row_tie rfl ⟨rfl, rfl⟩ (by kernel_rfl) rfl
    (fun f fn hf hfn => by
      obtain rfl : f = 8 := Option.some.inj ((show Tryd.prog.funcNamed "latecomer/latecomerlaw13.ProtocolAlternatives" = some 8 by kernel_rfl).symm.trans hf) |>.symm
      obtain rfl : fn = Tryd.f8 := (Option.some.inj (Tryd.func8.symm.trans hfn)).symm
      exact ⟨by kernel_rfl, fun j t ht => by
        rw [Tryd.params8] at ht
        have hm : t ∈ [25, 3, 26, 25] := by simpa using Array.mem_of_getElem? ht
        have hall : ([25, 3, 26, 25].all fun u => !Tryd.prog.wantsStandIn u) = true := by kernel_rfl
        exact (show Tryd.prog.wantsStandIn t = false by simpa using List.all_eq_true.1 hall t hm)⟩)
    (by kernel_rfl)
#print axioms alternatives_card
end Go.Proofs.YteilaajjpjhijaaDoor
