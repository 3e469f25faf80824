/- What the cards of the seven laws share: the listed variables at the start, how the arguments are opened, how they read behind the call. -/
import Derived.Test.YteilaajjpjhijaaDoorL7
import Derived.Test.YteilaajjpjhijaaDoorCards
import Derived.Test.YteilaajjpjhijaaDoorTie
import Derived.ProofKit
import Derived.OpenShut
import Derived.LaidMore
import Derived.Stop.Joined
import Derived.Stop.LaidErr
import Derived.SevenTiedAt
import Derived.Deep.Slices
namespace Go.Proofs.YteilaajjpjhijaaDoor
open Go.ChangeShapes Go.WideShapes Go.ChangeAt Go.WideElems Go.RowKit PSpec

set_option maxRecDepth 100000
abbrev laidL : List (String × DataW Unit) := [("math/bits.deBruijn32tab", Rows.laid_math_bits_deBruijn32tab), ("math/bits.deBruijn64tab", Rows.laid_math_bits_deBruijn64tab), ("internal/strconv.uint64pow10", Rows.laid_internal_strconv_uint64pow10), ("strconv.ErrRange", Rows.laid_strconv_ErrRange), ("strconv.ErrSyntax", Rows.laid_strconv_ErrSyntax)]
theorem cOwn : ownKnob Tryd.prog.godebug = none := by kernel_rfl
theorem cLaidOut : laidOutB Tryd.prog = true := by kernel_rfl
theorem cDoor (os : Os) (args : Array Value) : laidMetH Tryd.prog laidL ((World.doorLaid Tryd.prog 62 os).forCall (fun _ _ => 0) ⟨#[], args, []⟩).memory :=
  laidMetH_of_parts3 (fuel := 8) (laidMet_of_run' 8 (by kernel_rfl) (by kernel_rfl)) (by kernel_rfl) (by kernel_rfl)
theorem cSyn : Tryd.prog.globalNamed "strconv.ErrSyntax" = some 2 := by kernel_rfl
theorem cSynType : (Tryd.prog.globals[2]?).map (·.type) = some 84 := by kernel_rfl
theorem cStar : "*" ++ "errors.errorString" = "*errors.errorString" := by decide
theorem cRow158 (u : TypeId) (h : Tryd.prog.typeName? 3 u = some "*errors.errorString") : u = 158 :=
  typeName_ptr_named (nm := "errors.errorString") (by rw [cStar]; kernel_rfl) (by kernel_rfl) (by decide) u (by rw [cStar]; exact h)
theorem cCells159 : Tryd.prog.cellsOf 160 = 1 := by kernel_rfl
theorem cCells9 : Tryd.prog.cellsOf 9 = 1 := by kernel_rfl
theorem cells60 : Tryd.prog.cellsOf 60 = 4 := by kernel_rfl
theorem cells3 : Tryd.prog.cellsOf 3 = 1 := by kernel_rfl
theorem lay_of {W : World} (h : laidMetH Tryd.prog laidL W) : Lay W := by
  rw [MakeChecks.laidMetH_plain _ _ _ (by kernel_rfl)] at h
  obtain ⟨a, s, hv, _, _, _⟩ := laid_sentinel h.tail.tail.tail.tail cSyn cSynType Tryd.underlying84 cRow158 Tryd.underlying158 Tryd.underlying160 rfl rfl Tryd.underlying9 cCells159 cCells9
  refine ⟨.iface 158 (.pointer (some a)), ?_, .inr ⟨_, _, rfl⟩⟩
  have := World.var?_cell cSyn hv 0
  simpa using this
theorem i64_wf {n : Int} (h : (Lit.int .i64 n).wf = true) : I64 n := by
  simp [Lit.wf, IntKind.min, IntKind.max, IntKind.bits, IntKind.signed] at h
  unfold I64; omega

section
variable {H : Type} {enc : TypeId × Value → H} {W : World} {args : Array Value}
theorem open_ys {b0 : Nat} {v : Value} {d : DataW H} {ps : List MemPlace} (hval : Value.okWide Tryd.prog W .any b0 26 v) (h : DataW.Trod enc Tryd.prog W 0 (fun _ => true) true 26 v d ps) : ∃ ys, Ints W v ys := by
  obtain ⟨a0, len, cap, rfl⟩ := okWide_slice Tryd.underlying26 hval
  obtain ⟨fuel, hf⟩ := h
  rcases open_ints Tryd.underlying26 Tryd.underlying3 cells3 hf with ⟨hcs, _⟩ | ⟨a, len', cap', zs, hcs, _, hl, hm, hz, _, hcell, hwz⟩
  · simp [Value.cells] at hcs
    obtain ⟨rfl, rfl, rfl⟩ := hcs
    exact ⟨[], ints_nil W⟩
  · simp [Value.cells] at hcs
    obtain ⟨rfl, rfl, rfl⟩ := hcs
    simp only [if_true] at hz
    have hlen : (zs.take len).length = len := by rw [List.length_take]; omega
    refine ⟨zs.take len, some a, cap, by rw [hlen], by omega, hm, fun x hx => i64_wf (hwz x (List.mem_of_mem_take hx)), fun hne => ?_⟩
    have hl0 : 0 < len := by
      rw [← hlen]; exact List.length_pos_iff.2 hne
    obtain ⟨b, off, spot⟩ := a
    have hspot : spot = none := by simpa [Addr.add] using World.cell?_spot (hcell 0 (by omega))
    subst hspot
    refine ⟨b, off, rfl, fun i x hx => ?_⟩
    rw [List.getElem?_take] at hx
    split at hx
    · have := hcell i (by omega)
      rw [add_plain] at this
      rw [this, List.getD, hx]; rfl
    · simp at hx
theorem open_xs {b0 : Nat} {v : Value} {d : DataW H} {ps : List MemPlace} (hval : Value.okWide Tryd.prog W .any b0 25 v) (h : DataW.Trod enc Tryd.prog W 0 (fun _ => true) true 25 v d ps) : ∃ n, Fours W v n := by
  obtain ⟨a0, len, cap, rfl⟩ := okWide_slice Tryd.underlying25 hval
  obtain ⟨fuel, hf⟩ := h
  rcases Go.Deep.open_slice Tryd.underlying25 hf with ⟨hcs, _⟩ | ⟨a, len', cap', m, n, D, Pl, hcs, _, hl, hm, hm2, _, hel⟩
  · simp [Value.cells] at hcs
    obtain ⟨rfl, rfl, rfl⟩ := hcs
    exact ⟨0, none, 0, rfl, Nat.le_refl _, by decide, fun h => absurd h (by omega)⟩
  · simp [Value.cells] at hcs
    obtain ⟨rfl, rfl, rfl⟩ := hcs
    simp only [if_true] at hm2
    subst hm2
    have hspot : 0 < len → a.spot = none := fun h0 => by
      obtain ⟨cs', h1, _⟩ := hel 0 (by omega)
      rw [cells60] at h1
      obtain ⟨_, h2, h3⟩ := World.cells?_some h1
      have h4 := h3 0 (by omega)
      rw [List.getElem?_eq_getElem (by omega)] at h4
      simpa [Addr.add] using World.cell?_spot h4
    have key : ∀ i j : Nat, i < len → j < 4 → ∃ z : Int, I64 z ∧ W.cell? (a.add (i * 4 + j)) = some (.int .i64 z) := fun i j hi hj => by
      obtain ⟨cs', h1, h2⟩ := hel i (by omega)
      rw [cells60] at h1
      obtain ⟨xs, k, _, _, _, hxl, hx⟩ := DataW.trod_array Tryd.underlying60 h2
      have h3 := hx j hj
      rw [cells3, Nat.mul_one, List.getElem?_eq_getElem (by omega)] at h3
      obtain ⟨z, e1, _, hw⟩ := DataW.trod_int Tryd.underlying3 h3
      refine ⟨z, i64_wf hw, ?_⟩
      have h4 := (World.cells?_some h1).2.2 j hj
      have h5 : cs'[j]? = some (.int .i64 z) := by
        have h0 : ((cs'.drop j).take 1)[0]? = some (.int .i64 z) := by rw [e1]; rfl
        simpa using h0
      rw [h5] at h4
      rw [← h4]
      congr 1
      have hs := hspot (by omega)
      obtain ⟨b, off, spot⟩ := a
      simp only at hs
      subst hs
      rw [add_plain, add_plain, add_plain, Nat.add_assoc]
    refine ⟨len, some a, _, rfl, hl, hm, fun h0 => ?_⟩
    have hs := hspot h0
    obtain ⟨b, off, spot⟩ := a
    simp only at hs
    subst hs
    refine ⟨b, off, rfl, fun i j hi hj => ?_⟩
    obtain ⟨z, hz, hc⟩ := key i j hi hj
    rw [add_plain] at hc
    exact ⟨z, hz, by rw [Nat.add_assoc]; exact hc⟩
/-- an argument reads behind the call as it did before -/
theorem trod_keep {t : TypeId} (hr : Tryd.prog.readableRec t = true) (hrow : t < Tryd.prog.types.size) {W' : World} {v : Value} {d : DataW H} {ps : List MemPlace}
    (h : DataW.Trod enc Tryd.prog W 0 (fun _ => true) true t v d ps) (hb : Below W.heap.size W W') (hlt : ∀ x ∈ ps, x.block < W.heap.size) :
    DataW.Trod enc Tryd.prog W' 0 (fun b => decide (b < W.heap.size)) true t v d ps := Below.trod cLaidOut hr hrow h hb hlt
end
end Go.Proofs.YteilaajjpjhijaaDoor
