/- What the cards of the seven laws share: the listed variables at the start, how the arguments are opened, how they read behind the call. -/
import Derived.Test.YteilaajjpjhijaaDoorL7
import Derived.Test.YteilaajjpjhijaaDoorCards
import Derived.Test.YteilaajjpjhijaaDoorTie
import Derived.ProofKit
import Derived.OpenShut
import Derived.LaidMore
import Derived.Stop.Joined
import Derived.Stop.LaidErr
import Derived.SevenTiedAt
import Derived.Deep.Slices
namespace Go.Proofs.YteilaajjpjhijaaDoor
open Go.ChangeShapes Go.WideShapes Go.ChangeAt Go.WideElems Go.RowKit PSpec

set_option maxRecDepth 100000
abbrev laidL : List (String × DataW Unit) := [("math/bits.deBruijn32tab", Rows.laid_math_bits_deBruijn32tab), ("math/bits.deBruijn64tab", Rows.laid_math_bits_deBruijn64tab), ("internal/strconv.uint64pow10", Rows.laid_internal_strconv_uint64pow10), ("strconv.ErrRange", Rows.laid_strconv_ErrRange), ("strconv.ErrSyntax", Rows.laid_strconv_ErrSyntax)]
theorem cOwn : ownKnob Tryd.prog.godebug = none := by kernel_rfl
theorem cLaidOut : laidOutB Tryd.prog = true := by kernel_rfl
theorem cDoor (os : Os) (args : Array Value) : laidMetH Tryd.prog laidL ((World.doorLaid Tryd.prog 62 os).forCall (fun _ _ => 0) ⟨#[], args, []⟩).memory :=
  laidMetH_of_parts3 (fuel := 8) (laidMet_of_run' 8 (by kernel_rfl) (by kernel_rfl)) (by kernel_rfl) (by kernel_rfl)
theorem cSyn : Tryd.prog.globalNamed "strconv.ErrSyntax" = some 2 := by kernel_rfl
theorem cSynType : (Tryd.prog.globals[2]?).map (·.type) = some 84 := by kernel_rfl
theorem cStar : "*" ++ "errors.errorString" = "*errors.errorString" := by decide
theorem cRow158 (u : TypeId) (h : Tryd.prog.typeName? 3 u = some "*errors.errorString") : u = 158 :=
  typeName_ptr_named (nm := "errors.errorString") (by rw [cStar]; kernel_rfl) (by kernel_rfl) (by decide) u (by rw [cStar]; exact h)
theorem cCells159 : Tryd.prog.cellsOf 160 = 1 := by kernel_rfl
theorem cCells9 : Tryd.prog.cellsOf 9 = 1 := by kernel_rfl
theorem cells60 : Tryd.prog.cellsOf 60 = 4 := by kernel_rfl
theorem cells3 : Tryd.prog.cellsOf 3 = 1 := by kernel_rfl
theorem lay_of {W : World} (h : laidMetH Tryd.prog laidL W) : Lay W := by
  rw [MakeChecks.laidMetH_plain _ _ _ (by kernel_rfl)] at h
  obtain ⟨a, s, hv, _, _, _⟩ := laid_sentinel h.tail.tail.tail.tail cSyn cSynType Tryd.underlying84 cRow158 Tryd.underlying158 Tryd.underlying160 rfl rfl Tryd.underlying9 cCells159 cCells9
  refine ⟨.iface 158 (.pointer (some a)), ?_, .inr ⟨_, _, rfl⟩⟩
  have := World.var?_cell cSyn hv 0
  simpa using this
theorem i64_wf {n : Int} (h : (Lit.int .i64 n).wf = true) : I64 n := by
  simp [Lit.wf, IntKind.min, IntKind.max, IntKind.bits, IntKind.signed] at h
  unfold I64; omega

section
variable {H : Type} {enc : TypeId × Value → H} {W : World} {args : Array Value}
theorem open_ys {b0 : Nat} {v : Value} {d : DataW H} {ps : List MemPlace} (hval : Value.okWide Tryd.prog W .any b0 26 v) (h : DataW.Trod enc Tryd.prog W 0 (fun _ => true) true 26 v d ps) : ∃ ys, Ints W v ys := by
  obtain ⟨a0, len, cap, rfl⟩ := okWide_slice Tryd.underlying26 hval
  obtain ⟨fuel, hf⟩ := h
  rcases open_ints Tryd.underlying26 Tryd.underlying3 cells3 hf with ⟨hcs, _⟩ | ⟨a, len', cap', zs, hcs, _, hl, hm, hz, _, hcell, hwz⟩
  · simp [Value.cells] at hcs
    obtain ⟨rfl, rfl, rfl⟩ := hcs
    exact ⟨[], ints_nil W⟩
  · simp [Value.cells] at hcs
    obtain ⟨rfl, rfl, rfl⟩ := hcs
    simp only [if_true] at hz
    have hlen : (zs.take len).length = len := by rw [List.length_take]; omega
    refine ⟨zs.take len, some a, cap, by rw [hlen], by omega, hm, fun x hx => i64_wf (hwz x (List.mem_of_mem_take hx)), fun hne => ?_⟩
    have hl0 : 0 < len := by
      rw [← hlen]; exact List.length_pos_iff.2 hne
    obtain ⟨b, off, spot⟩ := a
    have hspot : spot = none := by simpa [Addr.add] using World.cell?_spot (hcell 0 (by omega))
    subst hspot
    refine ⟨b, off, rfl, fun i x hx => ?_⟩
    rw [List.getElem?_take] at hx
    split at hx
    · have := hcell i (by omega)
      rw [add_plain] at this
      rw [this, List.getD, hx]; rfl
    · simp at hx
theorem open_xs {b0 : Nat} {v : Value} {d : DataW H} {ps : List MemPlace} (hval : Value.okWide Tryd.prog W .any b0 25 v) (h : DataW.Trod enc Tryd.prog W 0 (fun _ => true) true 25 v d ps) : ∃ n, Fours W v n := by
  obtain ⟨a0, len, cap, rfl⟩ := okWide_slice Tryd.underlying25 hval
  obtain ⟨fuel, hf⟩ := h
  rcases Go.Deep.open_slice Tryd.underlying25 hf with ⟨hcs, _⟩ | ⟨a, len', cap', m, n, D, Pl, hcs, _, hl, hm, hm2, _, hel⟩
  · simp [Value.cells] at hcs
    obtain ⟨rfl, rfl, rfl⟩ := hcs
    exact ⟨0, none, 0, rfl, Nat.le_refl _, by decide, fun h => absurd h (by omega)⟩
  · simp [Value.cells] at hcs
    obtain ⟨rfl, rfl, rfl⟩ := hcs
    simp only [if_true] at hm2
    subst hm2
    have hspot : 0 < len → a.spot = none := fun h0 => by
      obtain ⟨cs', h1, _⟩ := hel 0 (by omega)
      rw [cells60] at h1
      obtain ⟨_, h2, h3⟩ := World.cells?_some h1
      have h4 := h3 0 (by omega)
      rw [List.getElem?_eq_getElem (by omega)] at h4
      simpa [Addr.add] using World.cell?_spot h4
    have key : ∀ i j : Nat, i < len → j < 4 → ∃ z : Int, I64 z ∧ W.cell? (a.add (i * 4 + j)) = some (.int .i64 z) := fun i j hi hj => by
      obtain ⟨cs', h1, h2⟩ := hel i (by omega)
      rw [cells60] at h1
      obtain ⟨xs, k, _, _, _, hxl, hx⟩ := DataW.trod_array Tryd.underlying60 h2
      have h3 := hx j hj
      rw [cells3, Nat.mul_one, List.getElem?_eq_getElem (by omega)] at h3
      obtain ⟨z, e1, _, hw⟩ := DataW.trod_int Tryd.underlying3 h3
      refine ⟨z, i64_wf hw, ?_⟩
      have h4 := (World.cells?_some h1).2.2 j hj
      have h5 : cs'[j]? = some (.int .i64 z) := by
        have h0 : ((cs'.drop j).take 1)[0]? = some (.int .i64 z) := by rw [e1]; rfl
        simpa using h0
      rw [h5] at h4
      rw [← h4]
      congr 1
      have hs := hspot (by omega)
      obtain ⟨b, off, spot⟩ := a
      simp only at hs
      subst hs
      rw [add_plain, add_plain, add_plain, Nat.add_assoc]
    refine ⟨len, some a, _, rfl, hl, hm, fun h0 => ?_⟩
    have hs := hspot h0
    obtain ⟨b, off, spot⟩ := a
    simp only at hs
    subst hs
    refine ⟨b, off, rfl, fun i j hi hj => ?_⟩
    obtain ⟨z, hz, hc⟩ := key i j hi hj
    rw [add_plain] at hc
    exact ⟨z, hz, by rw [Nat.add_assoc]; exact hc⟩
/-- an argument reads behind the call as it did before -/
theorem trod_keep {t : TypeId} (hr : Tryd.prog.readableRec t = true) (hrow : t < Tryd.prog.types.size) {W' : World} {v : Value} {d : DataW H} {ps : List MemPlace}
    (h : DataW.Trod enc Tryd.prog W 0 (fun _ => true) true t v d ps) (hb : Below W.heap.size W W') (hlt : ∀ x ∈ ps, x.block < W.heap.size) :
    DataW.Trod enc Tryd.prog W' 0 (fun b => decide (b < W.heap.size)) true t v d ps := Below.trod cLaidOut hr hrow h hb hlt
end
-- an arbitrary protocol among the arguments
theorem cells24 : Tryd.prog.cellsOf 24 = 1 := by kernel_rfl
theorem cells22 : Tryd.prog.cellsOf 22 = 1 := by kernel_rfl
theorem cells53 : Tryd.prog.cellsOf 53 = 1 := by kernel_rfl
theorem cells55 : Tryd.prog.cellsOf 55 = 2 := by kernel_rfl
theorem cells59 : Tryd.prog.cellsOf 59 = 3 := by kernel_rfl
/-- a list out of what each place below a bound holds -/
theorem list_of {α : Type} {Q : Nat → α → Prop} : ∀ n : Nat, (∀ i, i < n → ∃ x, Q i x) → ∃ l : List α, l.length = n ∧ ∀ i x, l[i]? = some x → Q i x
  | 0, _ => ⟨[], rfl, fun i x h => by simp at h⟩
  | n + 1, h => by
    obtain ⟨l, hl, hq⟩ := list_of n fun i hi => h i (by omega)
    obtain ⟨x, hx⟩ := h n (by omega)
    refine ⟨l ++ [x], by simp [hl], fun i y hy => ?_⟩
    by_cases hi : i < l.length
    · rw [List.getElem?_append_left hi] at hy
      exact hq i y hy
    · rw [List.getElem?_append_right (by omega)] at hy
      by_cases h0 : i - l.length = 0
      · rw [h0] at hy
        obtain rfl : x = y := by simpa using hy
        obtain rfl : i = n := by omega
        exact hx
      · rw [List.getElem?_eq_none (by simp; omega)] at hy
        exact absurd hy (by simp)
section
variable {H : Type} {enc : TypeId × Value → H} {W : World}
theorem cells_at {a : Addr} {cs : List Value} {n j : Nat} {v : Value} (h : W.cells? 0 a n = some cs) (hj : j < n) (hv : cs[j]? = some v) : W.cell? (a.add j) = some v := by
  rw [← hv]; exact ((World.cells?_some h).2.2 j hj).symm ▸ rfl
theorem spot_of {a : Addr} {cs : List Value} {n : Nat} (h : W.cells? 0 (a.add 0) n = some cs) (hn : 0 < n) : a.spot = none := by
  obtain ⟨_, h2, h3⟩ := World.cells?_some h
  have h4 := h3 0 hn
  rw [List.getElem?_eq_getElem (by omega)] at h4
  simpa [Addr.add] using World.cell?_spot h4
theorem int_at {fuel : Nat} {cs : List Value} {o : Nat} {y : DataW H × List MemPlace} (h : DataW.trod enc Tryd.prog W 0 (fun _ => true) true fuel 3 ((cs.drop o).take 1) = some y) : ∃ z : Int, cs[o]? = some (.int .i64 z) ∧ I64 z := by
  obtain ⟨z, e, _, hw⟩ := DataW.trod_int Tryd.underlying3 h
  have h0 : ((cs.drop o).take 1)[0]? = some (.int .i64 z) := by rw [e]; rfl
  exact ⟨z, by simpa using h0, i64_wf hw⟩
theorem open_items {fuel : Nat} {iv : Value} {x : DataW H × List MemPlace} (h : DataW.trod enc Tryd.prog W 0 (fun _ => true) true fuel 53 [iv] = some x) : ∃ its, Items W iv its := by
  rcases Go.Deep.open_slice Tryd.underlying53 h with ⟨hcs, _⟩ | ⟨a, len, cap, m, n, D, Pl, hcs, _, hl, hm, hm2, _, hel⟩
  · obtain rfl : iv = .slice none 0 0 := by simpa using hcs
    exact ⟨[], none, 0, rfl, Nat.le_refl _, by decide, fun h => absurd rfl h⟩
  · obtain rfl : iv = .slice (some a) len cap := by simpa using hcs
    simp only [if_true] at hm2
    subst hm2
    have hspot : 0 < len → a.spot = none := fun h0 => by
      obtain ⟨cs', h1, _⟩ := hel 0 (by omega)
      rw [cells59, Nat.zero_mul] at h1
      exact spot_of h1 (by decide)
    have key : ∀ i, i < len → ∃ x : It, W.cell? (a.add (i * 3)) = some (.int .i64 x.1) ∧ W.cell? (a.add (i * 3 + 1)) = some (.int .i64 x.2.1) ∧ W.cell? (a.add (i * 3 + 2)) = some (.int .i64 x.2.2) := fun i hi => by
      obtain ⟨cs', h1, h2⟩ := hel i (by omega)
      rw [cells59] at h1
      obtain ⟨xs, k, _, _, _, hxl, hx⟩ := DataW.trod_struct Tryd.underlying59 h2
      have q0 : DataW.trod enc Tryd.prog W 0 (fun _ => true) true k 3 ((cs'.drop 0).take (Tryd.prog.cellsOf 3)) = xs[0]? := hx 0 _ rfl
      have q1 : DataW.trod enc Tryd.prog W 0 (fun _ => true) true k 3 ((cs'.drop 1).take (Tryd.prog.cellsOf 3)) = xs[1]? := hx 1 _ rfl
      have q2 : DataW.trod enc Tryd.prog W 0 (fun _ => true) true k 3 ((cs'.drop 2).take (Tryd.prog.cellsOf 3)) = xs[2]? := hx 2 _ rfl
      rw [cells3] at q0 q1 q2
      rw [List.getElem?_eq_getElem (by simp at hxl; omega)] at q0 q1 q2
      obtain ⟨z0, e0, _⟩ := int_at q0
      obtain ⟨z1, e1, _⟩ := int_at q1
      obtain ⟨z2, e2, _⟩ := int_at q2
      have c0 := cells_at h1 (by decide) e0
      have c1 := cells_at h1 (by decide) e1
      have c2 := cells_at h1 (by decide) e2
      have hs := hspot (by omega)
      obtain ⟨b, off, spot⟩ := a
      simp only at hs
      subst hs
      simp only [add_plain] at c0 c1 c2 ⊢
      exact ⟨(z0, z1, z2), by simpa using c0, by simpa [Nat.add_assoc] using c1, by simpa [Nat.add_assoc] using c2⟩
    obtain ⟨its, hlen, hq⟩ := list_of len key
    refine ⟨its, some a, _, by rw [hlen], by omega, hm, fun hne => ?_⟩
    have h0 : 0 < len := by rw [← hlen]; exact List.length_pos_iff.2 hne
    have hs := hspot h0
    obtain ⟨b, off, spot⟩ := a
    simp only at hs
    subst hs
    refine ⟨b, off, rfl, fun i x hx => ?_⟩
    obtain ⟨r0, r1, r2⟩ := hq i x hx
    simp only [add_plain] at r0 r1 r2
    exact ⟨r0, by rw [Nat.add_assoc]; exact r1, by rw [Nat.add_assoc]; exact r2⟩
theorem open_rules {fuel : Nat} {iv : Value} {x : DataW H × List MemPlace} (h : DataW.trod enc Tryd.prog W 0 (fun _ => true) true fuel 22 [iv] = some x) : ∃ p, Rules W iv p := by
  rcases Go.Deep.open_slice Tryd.underlying22 h with ⟨hcs, _⟩ | ⟨a, len, cap, m, n, D, Pl, hcs, _, hl, hm, hm2, _, hel⟩
  · obtain rfl : iv = .slice none 0 0 := by simpa using hcs
    exact ⟨[], none, 0, rfl, Nat.le_refl _, by decide, fun h => absurd rfl h⟩
  · obtain rfl : iv = .slice (some a) len cap := by simpa using hcs
    simp only [if_true] at hm2
    subst hm2
    have hspot : 0 < len → a.spot = none := fun h0 => by
      obtain ⟨cs', h1, _⟩ := hel 0 (by omega)
      rw [cells55, Nat.zero_mul] at h1
      exact spot_of h1 (by decide)
    have key : ∀ i, i < len → ∃ x : Rl, W.cell? (a.add (i * 2)) = some (.int .i64 x.1) ∧ ∃ iv, W.cell? (a.add (i * 2 + 1)) = some iv ∧ Items W iv x.2 := fun i hi => by
      obtain ⟨cs', h1, h2⟩ := hel i (by omega)
      rw [cells55] at h1
      have hlen := (World.cells?_some h1).2.1
      obtain ⟨xs, k, _, _, _, hxl, hx⟩ := DataW.trod_struct Tryd.underlying55 h2
      have q0 : DataW.trod enc Tryd.prog W 0 (fun _ => true) true k 3 ((cs'.drop 0).take (Tryd.prog.cellsOf 3)) = xs[0]? := hx 0 _ rfl
      have q1 : DataW.trod enc Tryd.prog W 0 (fun _ => true) true k 53 ((cs'.drop 1).take (Tryd.prog.cellsOf 53)) = xs[1]? := hx 1 _ rfl
      rw [cells3] at q0
      rw [cells53] at q1
      rw [List.getElem?_eq_getElem (by simp at hxl; omega)] at q0 q1
      obtain ⟨z0, e0, _⟩ := int_at q0
      obtain ⟨u0, u1, rfl⟩ : ∃ u0 u1, cs' = [u0, u1] := by
        match cs', hlen with
        | [u0, u1], _ => exact ⟨u0, u1, rfl⟩
      simp only [List.drop_succ_cons, List.drop_zero, List.take_succ_cons, List.take_zero] at q1
      obtain ⟨its, hits⟩ := open_items q1
      have c0 := cells_at h1 (by decide) e0
      have c1 := cells_at (j := 1) (v := u1) h1 (by decide) rfl
      have hs := hspot (by omega)
      obtain ⟨b, off, spot⟩ := a
      simp only at hs
      subst hs
      simp only [add_plain] at c0 c1 ⊢
      exact ⟨(z0, its), by simpa using c0, u1, by simpa [Nat.add_assoc] using c1, hits⟩
    obtain ⟨p, hlen, hq⟩ := list_of len key
    refine ⟨p, some a, _, by rw [hlen], by omega, hm, fun hne => ?_⟩
    have h0 : 0 < len := by rw [← hlen]; exact List.length_pos_iff.2 hne
    have hs := hspot h0
    obtain ⟨b, off, spot⟩ := a
    simp only at hs
    subst hs
    refine ⟨b, off, rfl, fun i x hx => ?_⟩
    obtain ⟨r0, iv, r1, r2⟩ := hq i x hx
    simp only [add_plain] at r0 r1
    exact ⟨r0, iv, by rw [Nat.add_assoc]; exact r1, r2⟩
theorem open_raw {b0 : Nat} {v : Value} {d : DataW H} {ps : List MemPlace} (hval : Value.okWide Tryd.prog W .any b0 24 v) (h : DataW.Trod enc Tryd.prog W 0 (fun _ => true) true 24 v d ps) : ∃ pv p, v = .agg #[pv] ∧ Rules W pv p := by
  obtain ⟨cs, rfl, hs⟩ := okWide_struct Tryd.underlying24 hval
  rw [cells24] at hs
  obtain ⟨pv, rfl⟩ : ∃ pv, cs = #[pv] := by
    obtain ⟨l⟩ := cs
    match l, hs with
    | [pv], _ => exact ⟨pv, rfl⟩
  obtain ⟨fuel, hf⟩ := h
  obtain ⟨xs, k, _, _, _, hxl, hx⟩ := DataW.trod_struct Tryd.underlying24 hf
  have q0 : DataW.trod enc Tryd.prog W 0 (fun _ => true) true k 22 (((Value.agg #[pv]).cells.toList.drop 0).take (Tryd.prog.cellsOf 22)) = xs[0]? := hx 0 _ rfl
  rw [cells22] at q0
  rw [List.getElem?_eq_getElem (by simp at hxl; omega)] at q0
  obtain ⟨p, hp⟩ := open_rules (by simpa [Value.cells] using q0)
  exact ⟨pv, p, rfl, hp⟩
end
end Go.Proofs.YteilaajjpjhijaaDoor
