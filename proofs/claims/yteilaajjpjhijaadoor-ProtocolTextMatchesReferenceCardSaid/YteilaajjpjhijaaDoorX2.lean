/- Walk of Accepts. -/
import Derived.Test.YteilaajjpjhijaaDoorW11
namespace Go.Proofs.YteilaajjpjhijaaDoor
open Go.RowKit PSpec

theorem mf_err (p : Pr) (op : Int) (ch : List Int) : (matchF p op ch).2 = 0 ∨ (matchF p op ch).2 = 2 ∨ (matchF p op ch).2 = 130 := by
  unfold matchF
  split
  · split
    · exact .inl rfl
    · split
      · exact .inl rfl
      · exact .inr (.inr rfl)
  · exact .inr (.inl rfl)

set_option maxHeartbeats 1000000 in
theorem f18_any (pv cv : Value) (p : Pr) (op : Int) (ch : List Int) (w : World) (hp : Rules w pv p) (hcv : Ints w cv ch) :
    Calls Tryd.prog 18 #[.agg #[pv], .int .i64 op, cv] w fun e w' => e = .returned (.bool (accB p op ch)) ∧ Below w.heap.size w w' := by
  have b0 : Below w.heap.size w (w.alloc (.cells #[pv] 24)) := (Below.refl _ _).alloc (Nat.le_refl _) _
  have HP := Lib.hid (hp.below b0)
  have HC := Lib.hid (hcv.below b0)
  have B0 := Lib.hid b0
  clear hp hcv b0
  have hcall := f15_any pv cv p op ch _ HP.out HC.out
  have HACC : Hid (accB p op ch = (decide ((matchF p op ch).2 = 0) && (matchF p op ch).1.isEmpty)) := rfl
  obtain ⟨l, er, hm⟩ : ∃ l er, matchF p op ch = (l, er) := ⟨_, _, rfl⟩
  have her := mf_err p op ch
  unfold MatchPost at hcall
  rw [hm] at hcall her HACC
  simp only at her HACC
  have HCALL := Lib.hid hcall
  clear hcall hm
  by_cases h0 : er = 0
  · subst h0
    by_cases hl : l = []
    · subst hl
      go_enter Tryd.func18, Tryd.ntmps18
      go_wp2_with (go_at_call 15; refine HCALL.out.mono ?_; rintro e w1 ⟨v, rfl, ⟨a, cap, rfl, i1, i2, i3, i4⟩, hb⟩; clear i1 i2 i3 i4)
      go_ret
      exact ⟨ret_bool (by rw [HACC.out]; rfl), B0.out.trans (hb.mono (by simp))⟩
    · have hd : decide (l.length = 0) = false := by simpa using hl
      have hd2 : ((l.length : Int) == 0) = false := by
        have : l.length ≠ 0 := by simpa using hl
        simp; omega
      have hd3 : (l.length == 0) = false := by simpa using hl
      have hd4 : l.isEmpty = false := by simpa using hl
      have HL := Lib.hid hl
      clear hl
      go_enter Tryd.func18, Tryd.ntmps18
      go_wp2_with (go_at_call 15; refine HCALL.out.mono ?_; rintro e w1 ⟨v, rfl, ⟨a, cap, rfl, i1, i2, i3, i4⟩, hb⟩; clear i1 i2 i3 i4)
      go_ret
      exact ⟨ret_bool (by rw [HACC.out, hd4]; simp), B0.out.trans (hb.mono (by simp))⟩
  · have hd : (er == 0) = false := by simpa using h0
    have HE := Lib.hid h0
    clear h0
    go_enter Tryd.func18, Tryd.ntmps18
    go_wp2_with (go_at_call 15; refine HCALL.out.mono ?_; rintro e w1 ⟨v, rfl, ⟨a, cap, rfl, i1, i2, i3, i4⟩, hb⟩; clear i1 i2 i3 i4)
    go_ret
    exact ⟨ret_bool (by rw [HACC.out]; simp [HE.out]), B0.out.trans (hb.mono (by simp))⟩
end Go.Proofs.YteilaajjpjhijaaDoor
