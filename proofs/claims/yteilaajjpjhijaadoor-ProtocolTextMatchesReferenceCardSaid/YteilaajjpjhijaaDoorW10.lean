/- Walk of Match. -/
import Derived.Test.YteilaajjpjhijaaDoorGrp
namespace Go.Proofs.YteilaajjpjhijaaDoor
open Go.RowKit PSpec

def MatchPost (p : Pr) (op : Int) (ch : List Int) (w : World) (e : Ending) (w' : World) : Prop :=
  ∃ v, e = .returned (.tuple #[v, .int .i64 (matchF p op ch).2]) ∧ Ints w' v (matchF p op ch).1 ∧ Below w.heap.size w w'
theorem ints_nil (w : World) : Ints w (.slice none 0 0) [] := ⟨none, 0, rfl, Nat.le_refl _, by decide, fun _ h => (by simp at h), fun h => absurd rfl h⟩

theorem childrenB_eq (ch : List Int) : childrenB ch = (!(ch.any fun x => !opB x) && decide (ch.length ≤ 30)) := by
  unfold childrenB
  congr 1
  induction ch with
  | nil => rfl
  | cons a l ih => simp [List.all_cons, List.any_cons, ih]

set_option maxRecDepth 100000 in
set_option maxHeartbeats 4000000 in
theorem f15_bad (pv cv : Value) (p : Pr) (op : Int) (ch : List Int) (w : World) (hp : Rules w pv p) (hcv : Ints w cv ch) (hbad : (validB p && opB op && childrenB ch) = false) :
    Calls Tryd.prog 15 #[.agg #[pv], .int .i64 op, cv] w (MatchPost p op ch w) := by
  have hm : matchF p op ch = ([], 2) := by unfold matchF; rw [hbad]; rfl
  have hf : ∀ w', Below w.heap.size w w' → MatchPost p op ch w (.returned (.tuple #[.slice none 0 0, .int .i64 2])) w' := fun w' hb => ⟨.slice none 0 0, by rw [hm], by rw [hm]; exact ints_nil _, hb⟩
  have HF := Lib.hid hf
  clear hf hm
  have hcv' := hcv
  obtain ⟨c0, cac, rfl, g1, g2, g3, g4⟩ := hcv
  unfold maxLen at g2
  clear g3 g4
  have b0 : Below w.heap.size w (w.alloc (.cells #[pv] 24)) := (Below.refl _ _).alloc (Nat.le_refl _) _
  cases hv : validB p with
  | false =>
    go_enter Tryd.func15, Tryd.ntmps15
    go_wp2_with (go_at_call 20; refine (f20_any _ p _ (hp.below (by first | exact Below.refl _ _ | exact (Below.refl _ _).alloc (Nat.le_refl _) _))).mono ?_; rintro e w1 ⟨rfl, hb1⟩; rw [hv])
    go_ret2
    exact HF.out _ (b0.trans (hb1.mono (by simp)))
  | true =>
    cases ho : opB op with
    | false =>
      go_enter Tryd.func15, Tryd.ntmps15
      go_wp2_with (first | (go_at_call 20; refine (f20_any _ p _ (hp.below (by first | exact Below.refl _ _ | exact (Below.refl _ _).alloc (Nat.le_refl _) _))).mono ?_; rintro e w1 ⟨rfl, hb1⟩; rw [hv]) | (go_at_call 30; refine (f30_any _ _).mono ?_; rintro e w2 ⟨rfl, rfl⟩; rw [ho]))
      go_ret2
      exact HF.out _ (b0.trans (hb1.mono (by simp)))
    | true =>
      rw [hv, ho, childrenB_eq] at hbad
      by_cases hl : ch.length ≤ 30
      · have ha : (ch.any fun x => !opB x) = true := by simpa [hl] using hbad
        have hd : decide (30 < (ch.length : Int)) = false := by simp; omega
        have hd' : decide (30 < ch.length) = false := by simp; omega
        go_enter Tryd.func15, Tryd.ntmps15
        go_wp2_with (first | (go_at_call 20; refine (f20_any _ p _ (hp.below (by first | exact Below.refl _ _ | exact (Below.refl _ _).alloc (Nat.le_refl _) _))).mono ?_; rintro e w1 ⟨rfl, hb1⟩; rw [hv]) | (go_at_call 30; refine (f30_any _ _).mono ?_; rintro e w2 ⟨rfl, rfl⟩; rw [ho]) | (go_at_call 31; refine (f31_any _ ch _ (hcv'.below (b0.trans (hb1.mono (by simp))))).mono ?_; rintro e w2 ⟨rfl, hb2⟩; rw [ha]))
        go_ret2
        exact HF.out _ ((b0.trans (hb1.mono (by simp))).trans (hb2.mono (b0.trans (hb1.mono (by simp))).size))
      · have hd : decide (30 < (ch.length : Int)) = true := by simp; omega
        have hd' : decide (30 < ch.length) = true := by simp; omega
        go_enter Tryd.func15, Tryd.ntmps15
        go_wp2_with (first | (go_at_call 20; refine (f20_any _ p _ (hp.below (by first | exact Below.refl _ _ | exact (Below.refl _ _).alloc (Nat.le_refl _) _))).mono ?_; rintro e w1 ⟨rfl, hb1⟩; rw [hv]) | (go_at_call 30; refine (f30_any _ _).mono ?_; rintro e w2 ⟨rfl, rfl⟩; rw [ho]))
        go_ret2
        exact HF.out _ (b0.trans (hb1.mono (by simp)))
end Go.Proofs.YteilaajjpjhijaaDoor
