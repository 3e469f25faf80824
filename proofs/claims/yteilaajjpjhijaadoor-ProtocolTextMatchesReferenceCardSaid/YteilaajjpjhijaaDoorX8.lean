/- Walk of Print. -/
import Derived.Test.YteilaajjpjhijaaDoorX7
namespace Go.Proofs.YteilaajjpjhijaaDoor
open Go.RowKit PSpec

def PrintPost (p : Pr) (w : World) (e : Ending) (w' : World) : Prop := e = .returned (.tuple #[.string (bsA (printF p).1), .int .i64 (printF p).2]) ∧ Below w.heap.size w w'
theorem print_len : ∀ p : Pr, p.all ruleB = true → (printS p).length ≤ 58 * p.length := by
  intro p
  induction p with
  | nil => intro _; simp [printS]
  | cons r p ih =>
    intro h
    simp only [List.all_cons, Bool.and_eq_true] at h
    have h1 := line_len r h.1
    have h2 := ih h.2
    have e : printS (r :: p) = lineS r ++ printS p := rfl
    rw [e, List.length_append, List.length_cons]; omega

set_option maxRecDepth 100000 in
set_option maxHeartbeats 4000000 in
theorem f22_any (v : Value) (p : Pr) (w : World) (hp : Rules w v p) :
    Calls Tryd.prog 22 #[.agg #[v]] w (PrintPost p w) := by
  have HP := Lib.hid hp
  obtain ⟨a, cap, rfl, h1, h2, h3⟩ := hp
  unfold maxLen at h2
  have b0 : Below w.heap.size w (w.alloc (.cells #[.slice a p.length cap] 24)) := (Below.refl _ _).alloc (Nat.le_refl _) _
  have B0 := Lib.hid b0
  have H3 := Lib.hid h3
  clear b0 h3
  cases hv : validB p with
  | false =>
    have hf : printF p = ([], 130) := by unfold printF; rw [hv]; rfl
    have HF := Lib.hid hf
    have HV := Lib.hid hv
    clear hf hv
    go_enter Tryd.func22, Tryd.ntmps22
    go_wp2_with (go_at_call 20; refine (f20_any _ p _ (HP.out.below B0.out)).mono ?_; rintro e w1 ⟨rfl, hb1⟩; rw [HV.out])
    go_ret2
    exact ⟨by rw [HF.out]; rfl, B0.out.trans (hb1.mono (by simp))⟩
  | true =>
    have hf : printF p = (printS p, 0) := by unfold printF; rw [hv]; rfl
    have HF := Lib.hid hf
    have HV := Lib.hid hv
    have hp24 : p.length ≤ 24 := by simp only [validB, Bool.and_eq_true, decide_eq_true_eq] at hv; exact hv.1
    have HALL : Hid (p.all ruleB = true) := by simp only [validB, Bool.and_eq_true] at hv; exact hv.2
    clear hf hv
    go_enter Tryd.func22, Tryd.ntmps22
    go_wp2_with (go_at_call 20; refine (f20_any _ p _ (HP.out.below B0.out)).mono ?_; rintro e w1 ⟨rfl, hb1⟩; rw [HV.out]; have B1 := Lib.hid (B0.out.trans (hb1.mono (by simp))); have hsz1 : w.heap.size + 1 ≤ w1.heap.size := (by have := hb1.size; simpa using this); have hk : ∀ o1 : Obj, (w1.alloc o1).cell? ⟨w.heap.size, 0, none⟩ = some (.slice a p.length cap) := (fun o1 => keeps_of_below (hb1.trans ((Below.refl _ _).alloc (by simpa using hb1.size) _)) _ _ (by go_simp)); clear hb1)
    have hbu : Lib.IsBuilderF 82 5 w1.heap.size w1.heap.size (Lib.byteCells []) (w1.alloc (.cells #[.pointer none, .slice none 0 0] 82)) := build_new _ _ (World.alloc_heap_new _ _)
    have HBU := Lib.hid hbu
    clear hbu hk
    clear HP
    go_loopw [13] (fun i wr => ∃ k : Nat, k ≤ p.length ∧ i = .int .i64 k ∧ Lib.IsBuilderF 82 5 w1.heap.size w1.heap.size (Lib.byteCells (printS (p.take k))) wr ∧ Below w.heap.size w wr ∧ w1.heap.size ≤ wr.heap.size) (fun i _ => p.length - (intOf i).toNat)
    case atStart => exact ⟨0, Nat.zero_le _, rfl, by simpa [printS] using HBU.out, B1.out.alloc B1.out.size _, by simp⟩
    case round =>
      obtain ⟨k, hk, rfl, hbu, hb, hsz3⟩ := hrel
      have HBU2 := Lib.hid hbu
      have HB2 := Lib.hid hb
      clear hbu hb HBU
      by_cases hlt : k < p.length
      · obtain ⟨x, hx⟩ := get_some p k hlt
        obtain ⟨b, oo, rfl, hc⟩ := H3.out (by rintro rfl; simp at hlt)
        obtain ⟨c0, iv, c1, ci⟩ := (hc k x hx).keep (keeps_of_below HB2.out)
        have hxB : ruleB x = true := List.all_eq_true.1 HALL.out x (List.mem_of_getElem? hx)
        have hsn : printS (p.take (k + 1)) = printS (p.take k) ++ lineS x := flat_snoc lineS p k x hx
        have hpl := print_len (p.take (k + 1)) (by
          rw [List.all_eq_true]
          intro y hy
          exact List.all_eq_true.1 HALL.out y (List.mem_of_mem_take hy))
        rw [hsn, List.length_append] at hpl
        have hpl2 : (printS (p.take k)).length + (lineS x).length ≤ 10000 := by
          have h4 : (p.take (k + 1)).length ≤ 24 := by rw [List.length_take]; omega
          omega
        have HI := Lib.hid ci
        have HXB := Lib.hid hxB
        have HSN := Lib.hid hsn
        have HPL := Lib.hid hpl2
        obtain ⟨xo, xi⟩ := x
        obtain ⟨ia, ic, rfl, i1, i2, i3⟩ : Items wr iv xi := ci
        clear hx hc hxB hsn hpl hpl2 i1 i2 i3
        simp only at c0
        have hb3 : Below wr.heap.size wr (wr.alloc (.cells #[.int .i64 xo, .slice ia xi.length ic] 55)) := (Below.refl _ _).alloc (Nat.le_refl _) _
        have HB3 := Lib.hid hb3
        clear hb3
        go_wp2_with fail
        refine (f46_any (xo, xi) (.slice ia xi.length ic) _ (HI.out.below HB3.out) HXB.out).mono ?_
        rintro e w3 ⟨rfl, hb4⟩
        have HB4 := Lib.hid (HB3.out.trans (hb4.mono HB3.out.size))
        clear hb4
        go_wp2_with fail
        refine (write_call _ _ _ _ (build_keep HBU2.out HB4.out) (by have := HPL.out; omega) (Nat.le_trans hsz3 HB4.out.size)).mono ?_
        rintro e w4 ⟨⟨n4, rfl⟩, hbu4, hb4⟩
        have HBU4 := Lib.hid hbu4
        have HB5 : Hid (Below w.heap.size w w4) := (HB2.out.trans (HB4.out.mono HB2.out.size)).trans (hb4.mono (by omega))
        have hsz4 : w1.heap.size ≤ w4.heap.size := Nat.le_trans (Nat.le_trans hsz3 HB4.out.size) hb4.size
        clear hbu4 hb4
        go_wp2_with fail
        go_roundw
        case rel => exact ⟨k + 1, by omega, by go_num, by rw [HSN.out]; exact HBU4.out, HB5.out, hsz4⟩
        case measure => simp [intOf]; omega
      · obtain rfl : k = p.length := by omega
        rw [List.take_length] at HBU2
        have hstr := Tryd.Builder_String_any_f _ _ _ _ HBU2.out hsz3
        have HS : Hid (Calls Tryd.prog 47 #[.pointer (some ⟨w1.heap.size, 0, none⟩)] wr fun e w' => e = .returned (.string (bsA (printS p))) ∧ Below w1.heap.size wr w') := hstr.mono fun _ _ hh => ⟨hh.1, hh.2.2⟩
        clear hstr
        go_wp2_with (go_at_call 47; refine HS.out.mono ?_; rintro e w5 ⟨rfl, hb5⟩)
        go_ret2
        exact ⟨by rw [HF.out]; rfl, HB2.out.trans (hb5.mono (by omega))⟩
end Go.Proofs.YteilaajjpjhijaaDoor
