/- Walk of strings.IndexAny at the set of a blank and a new line, for every string. -/
import Derived.Test.YteilaajjpjhijaaDoorX4
import Derived.Test.YteilaajjpjhijaaDoorRng
namespace Go.Proofs.YteilaajjpjhijaaDoor
open Go.RowKit PSpec

theorem byte_at (s : ByteArray) (i : Nat) (h : i < s.size) : s.data.toList[i]? = some (s.get! i) := by
  have := Lib.data_getElem? s i h
  rw [this]
  have e : s.get! i = s[i]'h := get_at s i h
  rw [e]
/-- what the next code point of a string is: a byte below 128, or bytes that are none -/
theorem decode_step (s : ByteArray) (pos : Nat) (h : pos < s.size) :
    ((s.get! pos).toNat < 128 ∧ Utf8.decode s pos = ((s.get! pos).toNat, 1)) ∨
    (128 ≤ (s.get! pos).toNat ∧ 128 ≤ (Utf8.decode s pos).1 ∧ (Utf8.decode s pos).1 ≤ 2147483647 ∧ Lib.validRune ((Utf8.decode s pos).1 : Int) = true ∧ 1 ≤ (Utf8.decode s pos).2 ∧ pos + (Utf8.decode s pos).2 ≤ s.size ∧
      ∀ j, pos ≤ j → j < pos + (Utf8.decode s pos).2 → 128 ≤ (s.get! j).toNat) := by
  have e0 : s.get! pos = s[pos]'h := get_at s pos h
  by_cases ha : (s.get! pos).toNat < 128
  · left
    refine ⟨ha, ?_⟩
    rw [e0] at ha ⊢
    exact decode_ascii s pos h ha
  · right
    have hh := decode_high s pos h (by rw [← e0]; omega)
    refine ⟨by omega, hh.1, decode_le s pos, ?_, hh.2, ?_⟩
    · clear hh
      have hb : ∀ k, (s.get! (pos + k)).toNat < 256 := fun k => (s.get! (pos + k)).toNat_lt
      have ha' : ¬ (s.get! (pos + 0)).toNat < 128 := ha
      have hvr : ∀ c : Nat, (c < 2048 ∨ Utf8.valid c = true) → Lib.validRune (c : Int) = true := fun c hc => by
        unfold Lib.validRune
        unfold Utf8.valid at hc
        simp only [Bool.or_eq_true, Bool.and_eq_true, decide_eq_true_eq] at hc ⊢
        omega
      have her : Lib.validRune ((Utf8.runeError : Nat) : Int) = true := by decide
      simp only [Utf8.decode, ha', if_false]
      split
      · split
        · exact hvr _ (.inl (by omega))
        · exact her
      · split
        · split
          · rename_i hc
            simp only [Bool.and_eq_true] at hc
            exact hvr _ (.inr hc.2)
          · exact her
        · split
          · split
            · rename_i hc
              simp only [Bool.and_eq_true] at hc
              exact hvr _ (.inr hc.2)
            · exact her
          · exact her
    · clear hh
      have ha' : ¬ (s.get! (pos + 0)).toNat < 128 := ha
      simp only [Utf8.decode, ha', if_false]
      have one : pos + 1 ≤ s.size ∧ ∀ j, pos ≤ j → j < pos + 1 → 128 ≤ (s.get! j).toNat := ⟨h, fun j h1 h2 => by
        obtain rfl : j = pos := by omega
        omega⟩
      split
      · rename_i hc
        split
        · simp only [Bool.and_eq_true, decide_eq_true_eq, beq_iff_eq] at hc
          refine ⟨by omega, fun j h1 h2 => ?_⟩
          have hj : j = pos ∨ j = pos + 1 := by simp only at h2; omega
          rcases hj with rfl | rfl <;> omega
        · exact one
      · split
        · rename_i hc
          split
          · simp only [Bool.and_eq_true, decide_eq_true_eq, beq_iff_eq] at hc
            refine ⟨by omega, fun j h1 h2 => ?_⟩
            have hj : j = pos ∨ j = pos + 1 ∨ j = pos + 2 := by simp only at h2; omega
            rcases hj with rfl | rfl | rfl <;> omega
          · exact one
        · split
          · rename_i hc
            split
            · simp only [Bool.and_eq_true, decide_eq_true_eq, beq_iff_eq] at hc
              refine ⟨by omega, fun j h1 h2 => ?_⟩
              have hj : j = pos ∨ j = pos + 1 ∨ j = pos + 2 ∨ j = pos + 3 := by simp only at h2; omega
              rcases hj with rfl | rfl | rfl | rfl <;> omega
            · exact one
          · exact one

theorem run_next_str {W : World} {b : Nat} {s : ByteArray} {pos : Nat} (ty : TypeId) (hb : W.heap[b]? = some (.stringIter s pos)) (h : pos < s.size) :
    (Instr.next (.pointer (some ⟨b, 0, none⟩)) true ty).run Tryd.prog W =
      .ok (.tuple #[.bool true, .int .i64 pos, .int .i32 (Utf8.decode s pos).1]) (W.putObj b (.stringIter s (pos + (Utf8.decode s pos).2))) := by
  simp only [Instr.next, getObj, setObj, Sem.run_bind, Sem.run, hb, Result.andThen, h, if_true]
  simp [goInt, World.putObj]
theorem run_next_strend {W : World} {b : Nat} {s : ByteArray} {pos : Nat} (ty : TypeId) (hb : W.heap[b]? = some (.stringIter s pos)) (h : ¬ pos < s.size) :
    (Instr.next (.pointer (some ⟨b, 0, none⟩)) true ty).run Tryd.prog W = .ok (.tuple #[.bool false]) W := by
  simp [Instr.next, getObj, Sem.run, hb, h]

theorem heap_lt {w : World} {g : Nat} {o : Obj} (h : w.heap[g]? = some o) : g < w.heap.size := (Array.getElem?_eq_some_iff.1 h).1
def sepL : List UInt8 := [32, 10]
theorem sep_high {x : UInt8} (h : 128 ≤ x.toNat) : sepL.contains x = false := by
  cases hc : sepL.contains x with
  | false => rfl
  | true =>
    have : x = 32 ∨ x = 10 := by simpa [sepL] using hc
    rcases this with rfl | rfl <;> simp at h
theorem noAny_more {l : List UInt8} {i : Nat} (h : Lib.NoAny l sepL i) (k : Nat) (hk : ∀ j b, i ≤ j → j < i + k → l[j]? = some b → 128 ≤ b.toNat) : Lib.NoAny l sepL (i + k) := fun j b hj hb => by
  by_cases e : j < i
  · exact h j b e hb
  · exact sep_high (hk j b (by omega) hj hb)

def IndexPost (s : ByteArray) (w : World) (e : Ending) (w' : World) : Prop := e = .returned (.int .i64 (Lib.indexAny s.data.toList sepL)) ∧ Below w.heap.size w w'

theorem f78_set (c : Int) (w : World) (h0 : 128 ≤ c) (h1 : c ≤ 2147483647) (hv : Lib.validRune c = true) : Calls Tryd.prog 78 #[.string sepS, .int .i32 c] w fun e w' => e = .returned (.int .i64 (-1)) ∧ Below w.heap.size w w' := by
  by_cases h : c = 65533
  · subst h; exact f78_err w
  · by_cases h2 : c < 2048
    · exact f78_two c w h0 h2 hv
    · exact f78_more c w (by omega) h1 h hv

set_option maxRecDepth 100000 in
set_option maxHeartbeats 4000000 in
theorem f73_short (s : ByteArray) (w : World) (h8 : s.size ≤ 8) : Calls Tryd.prog 73 #[.string s, .string sepS] w (IndexPost s w) := by
  have h8z : decide ((8 : Int) < (s.size : Int)) = false := decide_eq_false (by omega)
  have hemp : sepS.toList.isEmpty = false := by rw [Lib.toList_data]; rfl
  have hs2 : sepS.size = 2 := rfl
  go_enter Tryd.func73, Tryd.ntmps73
  go_wp2_with (go_at_call 79; refine (Tryd.strings_shouldUseASCIISet _ _).mono ?_; rintro e w' ⟨rfl, hw⟩; rw [hw, h8z])
  go_loopg [9, 10] s.size (fun g _ _ wx => ∃ i : Nat, i + g = s.size ∧ wx.heap[w.heap.size]? = some (.stringIter s i) ∧ Lib.NoAny s.data.toList sepL i ∧ Below w.heap.size w wx)
  case atStart => exact ⟨0, by omega, World.alloc_heap_new _ _, Lib.NoAny.zero _ _, (Below.refl _ _).alloc (Nat.le_refl _) _⟩
  case round =>
    obtain ⟨i, hig, hit, hno, hb⟩ := hrel
    have HIT := Lib.hid hit
    have HN := Lib.hid hno
    have HB := Lib.hid hb
    clear hit hno hb
    by_cases hi : i < s.size
    · have hst := decode_step s i hi
      have hba := byte_at s i hi
      have hnx := fun ty => run_next_str (W := wr) ty HIT.out hi
      generalize hdc : Utf8.decode s i = d at hst hnx
      obtain ⟨r, k⟩ := d
      have hsz : w.heap.size < wr.heap.size := heap_lt HIT.out
      have hB2 : Below w.heap.size w (wr.putObj w.heap.size (.stringIter s (i + k))) := HB.out.trans (below_putObj _ _ (Nat.le_refl _))
      have hP : (wr.putObj w.heap.size (.stringIter s (i + k))).heap[w.heap.size]? = some (.stringIter s (i + k)) := World.putObj_heap_same hsz
      have HB2 := Lib.hid hB2
      have HP := Lib.hid hP
      have HBA := Lib.hid hba
      clear hB2 hP hba hdc
      generalize hWn : wr.putObj w.heap.size (.stringIter s (i + k)) = Wn at *
      clear hWn
      have hszn : w.heap.size < Wn.heap.size := heap_lt HP.out
      rcases hst with ⟨ha, hd⟩ | ⟨ha, d1, d2, d3, d4, d5, d6⟩
      · obtain ⟨rfl, rfl⟩ : r = (s.get! i).toNat ∧ k = 1 := by simpa using hd
        clear hd
        have hback : ((((s.get! i).toNat : Nat) : Int)).toNat.toUInt8 = s.get! i := by simp
        generalize hx : s.get! i = x at *
        have hcon := Lib.contains_iff_indexByte sepL x
        cases hin : sepL.contains x
        · rw [hin] at hcon
          have hlt : ¬ ((0 : Int) ≤ Lib.indexByte sepS.data.toList x) := of_decide_eq_false hcon.symm
          have HIN := Lib.hid hin
          have HX := Lib.hid hx
          clear hcon hin hx
          go_wp2_with (go_at_call 78; refine (Tryd.strings_IndexRune_ascii _ _ _ (by omega) (by omega)).mono ?_; rintro e w' ⟨rfl, hw⟩; rw [hw, hback])
          go_roundg (s.size - (i + 1))
          case measure => omega
          case rel => exact ⟨i + 1, by omega, HP.out, HN.out.succ HBA.out HIN.out, HB2.out⟩
        · rw [hin] at hcon
          have hge : (0 : Int) ≤ Lib.indexByte sepS.data.toList x := of_decide_eq_true hcon.symm
          have HIN := Lib.hid hin
          have HX := Lib.hid hx
          clear hcon hin hx
          go_wp2_with (go_at_call 78; refine (Tryd.strings_IndexRune_ascii _ _ _ (by omega) (by omega)).mono ?_; rintro e w' ⟨rfl, hw⟩; rw [hw, hback])
          go_ret
          exact ⟨by rw [Lib.indexAny_hit HN.out HBA.out HIN.out]; rfl, HB2.out⟩
      · have HD6 := Lib.hid d6
        clear d6
        go_wp2_with (go_at_call 78; refine (f78_set _ _ (by omega) (by omega) d3).mono ?_; rintro e w' ⟨rfl, hbw⟩; have HBW := Lib.hid hbw; clear hbw)
        go_roundg (s.size - (i + k))
        case measure => omega
        case rel => exact ⟨i + k, by omega, (HBW.out.block _ hszn).trans HP.out, noAny_more HN.out k (fun j b h1 h2 hb => by
            have hj : j < s.size := by omega
            rw [byte_at s j hj] at hb
            obtain rfl : s.get! j = b := by simpa using hb
            exact HD6.out j h1 h2), HB2.out.trans (HBW.out.mono (by omega))⟩
    · have hnx := fun ty => run_next_strend (W := wr) ty HIT.out hi
      go_wp2_with fail
      go_ret
      exact ⟨by rw [Lib.indexAny_none (fun j b hj hb => HN.out j b (by rw [← Lib.size_eq] at hj; omega) hb)]; rfl, HB.out⟩

theorem zero123 : ∀ w, (zeroValue 123).run Tryd.prog w = .ok (.agg (Array.replicate 256 (.bool false))) w := by
  intro w
  kernel_rfl

theorem f73_sep (s : ByteArray) (w : World) (hs : s.size < 4294967281) : Calls Tryd.prog 73 #[.string s, .string sepS] w (IndexPost s w) := by
  by_cases h8 : s.size ≤ 8
  · exact f73_short s w h8
  · refine (Tryd.strings_IndexAny_long zero123 s sepS w (by decide) (by omega) hs (by decide) (fun j b hb => ?_)).mono ?_
    · have : b ∈ ([32, 10] : List UInt8) := List.mem_of_getElem? hb
      simp only [List.mem_cons, List.not_mem_nil, or_false] at this
      rcases this with rfl | rfl <;> decide
    · rintro e w' ⟨rfl, rfl⟩
      exact ⟨rfl, ((Below.refl _ _).alloc (Nat.le_refl _) _).alloc (by simp) _⟩
theorem f73_one (s : ByteArray) (c : UInt8) (w : World) (hc : c.toNat < 128) : Calls Tryd.prog 73 #[.string s, .string ⟨#[c]⟩] w fun e w' => e = .returned (.int .i64 (Lib.indexAny s.data.toList [c])) ∧ w' = w :=
  Tryd.strings_IndexAny_one s ⟨#[c]⟩ w rfl fun j b hb => by
    have : b ∈ ([c] : List UInt8) := List.mem_of_getElem? hb
    obtain rfl : b = c := by simpa using this
    exact hc
end Go.Proofs.YteilaajjpjhijaaDoor
