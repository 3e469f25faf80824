/- Walk of the law Steps. -/
import Derived.Test.YteilaajjpjhijaaDoorXh
import Derived.Test.YteilaajjpjhijaaDoorSa
namespace Go.Proofs.YteilaajjpjhijaaDoor
open Go.RowKit PSpec

def LawPost (w : World) (e : Ending) (w' : World) : Prop := e = .returned (.bool true) ∧ Below w.heap.size w w'

/-- pick, as a number of the model -/
theorem pick_nat (z : Int) (n : Nat) (m : Int) (hm : m = n) (hz : I64 z) (hn : 0 < n) (hn2 : n ≤ 1000000) :
    ∃ k : Nat, k < n ∧ pickZ z m = k ∧ ∀ w : World, Calls Tryd.prog 13 #[.int .i64 z, .int .i64 m] w fun e w' => e = .returned (.int .i64 (k : Int)) ∧ w = w' := by
  have h := pick_lt z m (by omega)
  refine ⟨(pickZ z m).toNat, by omega, by omega, fun w => ?_⟩
  rw [Int.toNat_of_nonneg h.1]
  exact f13_any z m w hz (by omega) (by omega)
theorem four_nat {k : Nat} (h : k < 4) : Four (k : Int) := ⟨by omega, by omega⟩
theorem children_four {l : List Int} (h4 : ∀ x, x ∈ l → Four x) (hl : l.length ≤ 30) : childrenB l = true := by
  unfold childrenB
  simp only [Bool.and_eq_true, List.all_eq_true, decide_eq_true_eq]
  refine ⟨fun x hx => ?_, hl⟩
  obtain ⟨a, b⟩ := h4 x hx
  simp only [opB, Bool.and_eq_true, decide_eq_true_eq]; omega
theorem good_made {p : Pr} {o : Nat} {l : List Int} (hm : mProt p) (ho : o < 4) (h4 : ∀ x, x ∈ l → Four x) (hl : l.length ≤ 30) : Good p (o : Int) l :=
  ⟨hm.valid, by simp only [opB, Bool.and_eq_true, decide_eq_true_eq]; omega, children_four h4 hl⟩

set_option maxRecDepth 100000 in
set_option maxHeartbeats 4000000 in
theorem f7_any (xv yv : Value) (n : Nat) (op child at_ : Int) (ys : List Int) (w : World) (hlay : Lay w) (hx : Fours w xv n) (hy : Ints w yv ys) (ho : I64 op) (hc : I64 child) (ha : I64 at_) :
    Calls Tryd.prog 7 #[xv, .int .i64 op, yv, .int .i64 child, .int .i64 at_] w (LawPost w) := by
  have HX := Lib.hid hx
  have HY := Lib.hid hy
  have HLAY := Lib.hid hlay
  obtain ⟨o, ho4, _, hqo⟩ := pick_nat op 4 4 rfl ho (by decide) (by decide)
  obtain ⟨c, hc4, _, hqc⟩ := pick_nat child 4 4 rfl hc (by decide) (by decide)
  have HQO := Lib.hid hqo
  have HQC := Lib.hid hqc
  have HA := Lib.hid ha
  clear hx hy hlay hqo hqc ho hc ha
  go_enter Tryd.func7, Tryd.ntmps7
  go_wp2_with fail
  refine (f10_any w HLAY.out).mono ?_
  rintro e w1 ⟨rfl, hb1⟩
  have HB1 := Lib.hid hb1
  clear hb1
  go_wp2_with fail
  refine (f11_any xv n w1 (HX.out.below HB1.out)).mono ?_
  rintro e w2 ⟨pv, p, rfl, hp, hm, hb2⟩
  have hp' := hp
  obtain ⟨pa, pc, rfl, z1, z2, z3⟩ := hp'
  clear z1 z2 z3
  have bA : Below w2.heap.size w2 (w2.alloc (.cells #[.slice pa p.length pc] 24)) := (Below.refl _ _).alloc (Nat.le_refl _) _
  have HP := Lib.hid (hp.below bA)
  have HB2 : Hid (Below w.heap.size w (w2.alloc (.cells #[.slice pa p.length pc] 24))) := HB1.out.trans ((hb2.mono HB1.out.size).trans (bA.mono (Nat.le_trans HB1.out.size hb2.size)))
  have HM := Lib.hid hm
  clear hp hm hb2 bA
  go_wp2_with (go_at_call 13; with_reducible refine (HQO.out _).mono ?_; rintro e w3 ⟨rfl, rfl⟩)
  refine (f14_any (.slice pa p.length pc) yv p o ys _ HP.out (HY.out.below HB2.out) HM.out.valid HM.out.ops).mono ?_
  rintro e w4 ⟨lv, l, rfl, hl, hl4, hl12, hb4⟩
  have hl' := hl
  obtain ⟨la, lc, rfl, z1, z2, z3, z4⟩ := hl'
  clear z1 z2 z3 z4
  have HP4 := Lib.hid (HP.out.below hb4)
  have HB4 : Hid (Below w.heap.size w w4) := HB2.out.trans (hb4.mono HB2.out.size)
  have p4 : w4.cell? ⟨w2.heap.size, 0, none⟩ = some (.slice pa p.length pc) := keeps_of_below hb4 _ _ (by go_simp)
  have HL := Lib.hid hl
  obtain ⟨k, hk, _, hqk⟩ := pick_nat at_ (l.length + 1) ((l.length : Int) + 1) (by omega) HA.out (by omega) (by omega)
  have HQK := Lib.hid hqk
  have HL4 := Lib.hid hl4
  clear hl hb4 hqk hl4 HP
  go_wp2_with (first
    | (go_at_call 13; with_reducible refine (HQK.out _).mono ?_; rintro e w5 ⟨rfl, rfl⟩)
    | (go_at_call 13; with_reducible refine (HQC.out _).mono ?_; rintro e w5 ⟨rfl, rfl⟩))
  refine (f28_any _ l k c w4 HL.out (by omega) (by omega) (four_I64 (four_nat hc4))).mono ?_
  rintro e w5 ⟨mv, rfl, hmv, hb5⟩
  have hmv' := hmv
  obtain ⟨ma, mc, rfl, z1, z2, z3, z4⟩ := hmv'
  clear z1 z2 z3 z4
  have HMV := Lib.hid hmv
  have p5 : w5.cell? ⟨w2.heap.size, 0, none⟩ = some (.slice pa p.length pc) := keeps_of_below hb5 _ _ p4
  have HP5 := Lib.hid (HP4.out.below hb5)
  have HL5 := Lib.hid (HL.out.below hb5)
  have HB5 : Hid (Below w.heap.size w w5) := HB4.out.trans (hb5.mono HB4.out.size)
  clear hb5 hmv p4 HP4 HL
  have g1 : Good p (o : Int) l := good_made HM.out ho4 HL4.out (by omega)
  have g2 : Good p (o : Int) (insAt l k c) := good_ins g1 (by omega) (four_nat hc4) (by omega)
  have hstep : (matchF p o (insAt l k c)).2 = 0 → (matchF p o l).2 = 0 ∧ (matchF p o l).1.length ≤ (matchF p o (insAt l k c)).1.length + 1 := by
    have e := insAt_split (l := l) (k := k) c
    rw [e] at g2 ⊢
    have := step_law (p := p) (op := o) (a := l.take k) (b := l.drop k) (x := c) (by rw [List.take_append_drop]; exact g1) g2
    rw [List.take_append_drop] at this
    exact this
  have r1 := match_err g1
  have r2 := match_err g2
  obtain ⟨al, ae, hma⟩ : ∃ al ae, matchF p o l = (al, ae) := ⟨_, _, rfl⟩
  obtain ⟨bl, be, hmb⟩ : ∃ bl be, matchF p o (insAt l k c) = (bl, be) := ⟨_, _, rfl⟩
  rw [hma] at r1 hstep
  rw [hmb] at r2 hstep
  simp only at r1 r2 hstep
  have HMA := Lib.hid (fun W h1 h2 => mcall hma (.slice pa p.length pc) (.slice la l.length lc) W h1 h2)
  have HMB := Lib.hid (fun W h1 h2 => mcall hmb (.slice pa p.length pc) (.slice ma (insAt l k c).length mc) W h1 h2)
  clear hma hmb g1 g2
  go_wp2_with fail
  refine (HMA.out _ HP5.out HL5.out).mono ?_
  rintro e w6 ⟨av, rfl, hav, hb6⟩
  obtain ⟨aa, ac, rfl, z1, z2, z3, z4⟩ := hav
  have hal : al.length ≤ 9223372036854775807 := by unfold maxLen at z2; omega
  clear z1 z2 z3 z4
  have p6 : w6.cell? ⟨w2.heap.size, 0, none⟩ = some (.slice pa p.length pc) := keeps_of_below hb6 _ _ p5
  have HB6 : Hid (Below w.heap.size w w6) := HB5.out.trans (hb6.mono HB5.out.size)
  have HP6 := Lib.hid (HP5.out.below hb6)
  have HM6 := Lib.hid (HMV.out.below hb6)
  clear hb6 p5
  go_wp2_with fail
  refine (HMB.out _ HP6.out HM6.out).mono ?_
  rintro e w7 ⟨bv, rfl, hbv, hb7⟩
  obtain ⟨ba, bc, rfl, z1, z2, z3, z4⟩ := hbv
  clear z1 z2 z3 z4
  have HB7 : Hid (Below w.heap.size w w7) := HB6.out.trans (hb7.mono HB6.out.size)
  clear hb7 p6
  rcases r2 with rfl | rfl
  · obtain ⟨rfl, hlen⟩ := hstep rfl
    have d1 : decide ((bl.length : Int) < (al.length : Int) - 1) = false := by simp; omega
    by_cases hb0 : bl.length = 0
    · have d2 : decide ((1 : Int) < (al.length : Int)) = false := by simp; omega
      go_wp2_with fail
      go_ret
      exact ⟨rfl, HB7.out⟩
    · have d2 : ((bl.length : Int) == 0) = false := by simpa using hb0
      go_wp2_with fail
      go_ret
      exact ⟨rfl, HB7.out⟩
  · rcases r1 with rfl | rfl
    · go_wp2_with fail
      go_ret
      exact ⟨rfl, HB7.out⟩
    · go_wp2_with fail
      go_ret
      exact ⟨rfl, HB7.out⟩
end Go.Proofs.YteilaajjpjhijaaDoor
