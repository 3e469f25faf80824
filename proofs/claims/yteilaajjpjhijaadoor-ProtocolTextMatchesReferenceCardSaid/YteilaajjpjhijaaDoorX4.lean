/- Walks of strings.IndexRune and strings.IndexAny at the set of a blank and a new line, for every string. -/
import Derived.Test.YteilaajjpjhijaaDoorX1
import Derived.Test.YteilaajjpjhijaaDoorX3
import Derived.Laws.RangeAny
import Derived.Deep.LoopGhost
import Derived.Deep.QuietTactic
import Derived.BigQuiet
namespace Go.Proofs.YteilaajjpjhijaaDoor
open Go.RowKit PSpec

/-- a blank, a new line -/
def sepS : ByteArray := ⟨#[32, 10]⟩

set_option maxRecDepth 100000 in
set_option maxHeartbeats 1000000 in
theorem f78_err (w : World) : Calls Tryd.prog 78 #[.string sepS, .int .i32 65533] w fun e w' => e = .returned (.int .i64 (-1)) ∧ Below w.heap.size w w' := by
  go_enter Tryd.func78, Tryd.ntmps78
  go_wp2_with fail
  go_loopg [5, 6] 2 (fun g _ _ wx => ∃ i : Nat, i + g = 2 ∧ wx = w.iter sepS i)
  case atStart => exact ⟨0, by omega, rfl⟩
  case round =>
    obtain ⟨i, hig, rfl⟩ := hrel
    cases gk with
    | zero =>
      obtain rfl : i = 2 := by omega
      have hnx := fun ty => run_next_end (P := Tryd.prog) w sepS 2 ty (by decide)
      go_wp2_with fail
      go_ret
      exact ⟨rfl, (Below.refl _ _).alloc (Nat.le_refl _) _⟩
    | succ g =>
      have hi : i = 0 ∨ i = 1 := by omega
      rcases hi with rfl | rfl
      · have hnx := fun ty => run_next_ascii (P := Tryd.prog) w sepS 0 ty (by decide) (by decide)
        go_wp2_with fail
        go_roundg g
        case measure => omega
        case rel => exact ⟨1, by omega, rfl⟩
      · have hnx := fun ty => run_next_ascii (P := Tryd.prog) w sepS 1 ty (by decide) (by decide)
        go_wp2_with fail
        go_roundg g
        case measure => omega
        case rel => exact ⟨2, by omega, rfl⟩
theorem quiet_on {P : Program} {f : FuncId} {args : Array Value} {w : World} {a n : Nat} {v : Value} (h : Calls P f args (w.drewN (a + n)) fun e w' => e = .returned v ∧ w' = w.drewN (a + n)) :
    Calls P f args (w.drewN (a + n)) fun e w' => e = .returned v ∧ ∃ m, w' = w.drewN (a + m) := h.mono fun _ _ hh => ⟨hh.1, n, hh.2⟩
theorem enc_two (c : Int) (h0 : 128 ≤ c) (h1 : c < 2048) : ∃ a b : UInt8, Utf8.encode c = ⟨#[a, b]⟩ ∧ 128 ≤ b.toNat := by
  have hv : Utf8.valid c = true := by unfold Utf8.valid; simp; omega
  refine ⟨UInt8.ofNat (0xC0 + c.toNat / 64), UInt8.ofNat (0x80 + c.toNat % 64), ?_, ?_⟩
  · unfold Utf8.encode
    simp only [hv, if_true]
    rw [if_neg (by omega), if_pos (by omega)]
  · rw [UInt8.toNat_ofNat']
    omega
theorem enc_more (c : Int) (h1 : 2048 ≤ c) : 3 ≤ (Utf8.encode c).size ∧ (Utf8.encode c).size ≤ 4 := by
  have hk : 2048 ≤ (if Utf8.valid c = true then c.toNat else Utf8.runeError) := by
    by_cases h : Utf8.valid c = true
    · rw [if_pos h]; omega
    · rw [if_neg h]; decide
  unfold Utf8.encode
  simp only
  generalize (if Utf8.valid c = true then c.toNat else Utf8.runeError) = k at hk
  rw [if_neg (by omega), if_neg (by omega)]
  by_cases h : k < 65536
  · rw [if_pos h]; exact ⟨Nat.le_refl 3, Nat.le_succ 3⟩
  · rw [if_neg h]; exact ⟨Nat.le_succ 3, Nat.le_refl 4⟩

set_option maxRecDepth 100000 in
set_option maxHeartbeats 1000000 in
theorem f78_more (c : Int) (w : World) (h0 : 2048 ≤ c) (h1 : c ≤ 2147483647) (hne : c ≠ 65533) (hv : Lib.validRune c = true) : Calls Tryd.prog 78 #[.string sepS, .int .i32 c] w fun e w' => e = .returned (.int .i64 (-1)) ∧ Below w.heap.size w w' := by
  have hd : (c == 65533) = false := by simpa using hne
  obtain ⟨m1, m2⟩ := enc_more c h0
  generalize hE : Utf8.encode c = E at m1 m2
  clear hne
  go_enter Tryd.func78, Tryd.ntmps78
  go_wp2_with (go_at_call 90; refine (Tryd.utf8_ValidRune c _).mono ?_; rintro e w' ⟨rfl, rfl⟩; rw [hv])
  go_step3
  go_wp2_with fail
  refine wp_loop_rounds 1 ?_
  rw [rounds_succ]
  have hs2 : sepS.size = 2 := rfl
  go_wp2_with fail
  rw [Exit.noGoto_ret]
  go_ret
  exact ⟨rfl, Below.refl _ _⟩
set_option maxRecDepth 100000 in
set_option maxHeartbeats 1000000 in
theorem f78_two (c : Int) (w : World) (h0 : 128 ≤ c) (h1 : c < 2048) (hv : Lib.validRune c = true) : Calls Tryd.prog 78 #[.string sepS, .int .i32 c] w fun e w' => e = .returned (.int .i64 (-1)) ∧ Below w.heap.size w w' := by
  have hd : (c == 65533) = false := by simp; omega
  obtain ⟨a, b, hE, hb⟩ := enc_two c h0 h1
  go_enter Tryd.func78, Tryd.ntmps78
  go_wp2_with (go_at_call 90; refine (Tryd.utf8_ValidRune c _).mono ?_; rintro e w' ⟨rfl, rfl⟩; rw [hv])
  go_step3
  go_wp2_with fail
  refine wp_loop_rounds 1 ?_
  rw [rounds_succ]
  have hs2 : sepS.size = 2 := rfl
  have hs3 : sepS[1] = 10 := rfl
  have hbn : ((10 : Int) != (((⟨#[a, b]⟩ : ByteArray)[1]'(Nat.lt_succ_self 1)).toNat : Int)) = true := by
    show ((10 : Int) != (b.toNat : Int)) = true
    simp; omega
  have hix : ∀ x, Lib.indexByte [] x = -1 := fun _ => rfl
  have hix2 : ∀ x, Lib.indexByte ByteArray.empty.data.toList x = -1 := fun _ => rfl
  go_wp2_with fail
  go_step3
  go_wp2_with fail
  go_quiet (fail)
  go_wp2_with fail
  go_quiet ((go_at_call 89; exact quiet_on (Tryd.strings_IndexByte _ _ _)))
  go_wp2_with fail
  rw [Exit.noGoto_ret]
  go_wp2_with fail
  rw [Exit.noGoto_ret]
  go_ret
  exact ⟨rfl, below_drewN (Below.refl _ _) _⟩
end Go.Proofs.YteilaajjpjhijaaDoor
