/- Walks of the cursor: number, skip. -/
import Derived.Test.YteilaajjpjhijaaDoorX5
import Derived.Test.YteilaajjpjhijaaDoorTx
import Derived.Lib.AtoiErrMem
import Derived.WalkSpells
namespace Go.Proofs.YteilaajjpjhijaaDoor
open Go.RowKit PSpec

/-- the string of some bytes -/
def bsA (l : Bs) : ByteArray := ⟨l.toArray⟩
theorem bsA_data (l : Bs) : (bsA l).data.toList = l := by simp [bsA]
theorem bsA_size (l : Bs) : (bsA l).size = l.length := by rw [Lib.size_eq, bsA_data]
theorem bsA_of (s : ByteArray) : bsA s.data.toList = s := by
  unfold bsA
  rw [Array.toArray_toList]
theorem bsA_take (l : Bs) (i : Nat) : (bsA l).extract 0 i = bsA (l.take i) := by
  rw [← bsA_of ((bsA l).extract 0 i)]
  congr 1
  rw [Lib.extract_data]
  simp [bsA_data]
theorem bsA_drop (l : Bs) (i : Nat) : (bsA l).extract i (bsA l).size = bsA (l.drop i) := by
  rw [← bsA_of ((bsA l).extract i (bsA l).size)]
  congr 1
  rw [Lib.extract_data, bsA_data, bsA_size]
  rw [List.take_of_length_le (by simp)]

/-- the variable of the library that an error hands on -/
def Lay (w : World) : Prop := ∃ ev, w.cell? ⟨2, 0, none⟩ = some ev ∧ (ev = .nilIface ∨ ∃ te pe, ev = .iface te pe)
theorem Lay.below {w w' : World} (h : Lay w) (hb : Below w.heap.size w w') : Lay w' := by
  obtain ⟨ev, h1, h2⟩ := h
  exact ⟨ev, keeps_of_below hb _ _ h1, h2⟩
theorem Lay.grown {w w' : World} {b : Nat} (h : Lay w) (hb : w.grownBy w' (some b)) (h2 : 2 < b) : Lay w' := by
  obtain ⟨ev, h1, h3⟩ := h
  exact ⟨ev, hb.cell h1 (by simp; omega), h3⟩

/-- the reader's block -/
def RB (w : World) (b : Nat) (s : Bs) (v : Value) : Prop := w.heap[b]? = some (.cells #[.string (bsA s), v] 93 (0, 0))
theorem RB.lt {w : World} {b : Nat} {s : Bs} {v : Value} (h : RB w b s v) : b < w.heap.size := heap_lt h
theorem RB.below {w w' : World} {b : Nat} {s : Bs} {v : Value} (h : RB w b s v) (hb : Below w.heap.size w w') : RB w' b s v := (hb.block b h.lt).trans h
theorem RB.cell0 {w : World} {b : Nat} {s : Bs} {v : Value} (h : RB w b s v) : w.cell? ⟨b, 0, none⟩ = some (.string (bsA s)) := by
  rw [cell_of_row w b 0 _ _ _ h]; rfl
theorem RB.cell1 {w : World} {b : Nat} {s : Bs} {v : Value} (h : RB w b s v) : w.cell? ⟨b, 1, none⟩ = some v := by
  rw [cell_of_row w b 1 _ _ _ h]; rfl
theorem RB.fr {w : World} {b : Nat} {s : Bs} {v : Value} (h : RB w b s v) (i : Nat) : w.frozen? ⟨b, i, none⟩ = false := frozen_of_row w b i _ _ h
theorem RB.set0 {w : World} {b : Nat} {s : Bs} {v : Value} (h : RB w b s v) (t : Bs) : RB (w.setCell ⟨b, 0, none⟩ (.string (bsA t))) b t v := by
  unfold RB at h ⊢
  simp [World.setCell, Array.getElem?_modify, h]
theorem RB.set1 {w : World} {b : Nat} {s : Bs} {v : Value} (h : RB w b s v) (u : Value) : RB (w.setCell ⟨b, 1, none⟩ u) b s u := by
  unfold RB at h ⊢
  simp [World.setCell, Array.getElem?_modify, h]
theorem grown_set {a w : World} {b : Nat} (h : a.grownBy w (some b)) (i : Nat) (u : Value) : a.grownBy (w.setCell ⟨b, i, none⟩ u) (some b) :=
  ⟨h.os, h.tape, h.output, by simpa [World.setCell] using h.size, fun k hk hne => (Below.heap_setCell w ⟨b, i, none⟩ u k (by
    rintro rfl
    exact hne rfl)).trans (h.block k hk hne)⟩
theorem grown_trans {a b c : World} {g : Option Nat} (h : a.grownBy b g) (k : b.grownBy c g) : a.grownBy c g :=
  ⟨k.os.trans h.os, k.tape.trans h.tape, k.output.trans h.output, Nat.le_trans h.size k.size, fun i hi hne => (k.block i (Nat.lt_of_lt_of_le hi h.size) hne).trans (h.block i hi hne)⟩
theorem grownBel {w w' : World} (h : Below w.heap.size w w') (g : Option Nat) : w.grownBy w' g := ⟨h.os, h.tape, h.output, h.size, fun k hk _ => h.block k hk⟩

theorem index_le (ends : Bs) : ∀ s : Bs, Lib.indexAny s ends ≤ s.length := by
  intro s
  induction s with
  | nil => simp [Lib.indexAny]
  | cons a s ih =>
    unfold Lib.indexAny
    split
    · simp; omega
    · split
      · simp; omega
      · simp; omega
theorem atoi_call (t : Bs) (w : World) (hl : t.length ≤ 18) (hlay : Lay w) :
    Calls Tryd.prog 74 #[.string (bsA t)] w fun e w' => Below w.heap.size w w' ∧ match Lib.atoi t with
      | some n => e = .returned (.tuple #[.int .i64 n, .nilIface])
      | none => ∃ N, e = .returned (.tuple #[.int .i64 0, .iface 142 (.pointer (some ⟨N, 0, none⟩))]) := by
  cases h : Lib.atoi t with
  | some n =>
    refine (Tryd.strconv_Atoi (bsA t) n (by rw [bsA_size]; exact hl) (by rw [bsA_data]; exact h) w).mono ?_
    rintro e w' ⟨rfl, t, rfl⟩
    exact ⟨Lib.bytesWorld_below _ _ _, rfl⟩
  | none =>
    obtain ⟨ev, h1, h2⟩ := hlay
    refine (Tryd.strconv_Atoi_err (bsA t) (by rw [bsA_size]; exact hl) (by rw [bsA_data]; exact h) ev w h1 h2).mono ?_
    rintro e w' ⟨N, rfl, _, _, hb⟩
    exact ⟨hb, N, rfl⟩

def CurPost (n : Int) (b : Nat) (t : Bs) (v : Value) (w : World) (e : Ending) (w' : World) : Prop := e = .returned (.int .i64 n) ∧ RB w' b t v ∧ w.grownBy w' (some b)

set_option maxRecDepth 100000 in
set_option maxHeartbeats 2000000 in
theorem f64_gen (ends : ByteArray) (hI : ∀ (s : ByteArray) (w : World), s.size < 4294967281 → Calls Tryd.prog 73 #[.string s, .string ends] w fun e w' => e = .returned (.int .i64 (Lib.indexAny s.data.toList ends.data.toList)) ∧ Below w.heap.size w w')
    (b : Nat) (s : Bs) (v : Value) (w : World) (h : RB w b s v) (hl : s.length ≤ 100000) (hlay : Lay w) :
    Calls Tryd.prog 64 #[.pointer (some ⟨b, 0, none⟩), .string ends] w (CurPost (numP ends.data.toList s).1 b (numP ends.data.toList s).2 v w) := by
  have HI := Lib.hid hI
  have HB := Lib.hid h
  have HL := Lib.hid hlay
  have c0 := h.cell0
  clear hI h hlay
  have hia := HI.out (bsA s) w (by rw [bsA_size]; omega)
  rw [bsA_data] at hia
  obtain ⟨i, hi⟩ : ∃ i, Lib.indexAny s ends.data.toList = i := ⟨_, rfl⟩
  rw [hi] at hia
  have HIA := Lib.hid hia
  clear hia
  by_cases h0 : i < 0 ∨ 2 < i
  · have hn : numP ends.data.toList s = (-1, s) := by
      unfold numP; rw [hi, if_pos h0]
    rw [hn]
    have HN := Lib.hid hn
    clear hn hi
    have fin : ∀ w', Below w.heap.size w w' → CurPost (-1) b s v w (.returned (.int .i64 (-1))) w' := fun w' hb => ⟨rfl, HB.out.below hb, grownBel hb _⟩
    have FIN := Lib.hid fin
    clear fin
    rcases h0 with h0 | h0
    · go_enter Tryd.func64, Tryd.ntmps64
      go_wp2_with (go_at_call 73; refine HIA.out.mono ?_; rintro e w1 ⟨rfl, hb1⟩; have B1 := Lib.hid hb1; clear hb1)
      go_ret
      exact FIN.out _ B1.out
    · go_enter Tryd.func64, Tryd.ntmps64
      go_wp2_with (go_at_call 73; refine HIA.out.mono ?_; rintro e w1 ⟨rfl, hb1⟩; have B1 := Lib.hid hb1; clear hb1)
      go_ret
      exact FIN.out _ B1.out
  · obtain ⟨k, rfl⟩ : ∃ k : Nat, i = k := ⟨i.toNat, by omega⟩
    have hk : (k : Int) ≤ s.length := by rw [← hi]; exact index_le _ _
    have hk2 : k ≤ 2 := by omega
    have hks : (k : Int) ≤ (bsA s).size := by rw [bsA_size]; exact hk
    have hks2 : k ≤ (bsA s).size := by rw [bsA_size]; omega
    have ex1 : (bsA s).extract 0 k = bsA (s.take k) := bsA_take s k
    have ex2 : (bsA s).extract k (bsA s).size = bsA (s.drop k) := bsA_drop s k
    have hac := fun W (hw : Lay W) => atoi_call (s.take k) W (by rw [List.length_take]; omega) hw
    have HKL := Lib.hid hk
    clear hk
    cases ha : Lib.atoi (s.take k) with
    | none =>
      have hn : numP ends.data.toList s = (-1, s) := by
        unfold numP; rw [hi, if_neg h0, Int.toNat_natCast, ha]
      rw [hn]
      rw [ha] at hac
      have HAC := Lib.hid hac
      have HX1 := Lib.hid ex1
      clear hn hi hac ha ex1 ex2 h0
      go_enter Tryd.func64, Tryd.ntmps64
      go_wp2_with (go_at_call 73; refine HIA.out.mono ?_; rintro e w1 ⟨rfl, hb1⟩; have B1 := Lib.hid hb1; have c1 := (HB.out.below hb1).cell0; clear hb1)
      rw [HX1.out]
      refine (HAC.out _ (HL.out.below B1.out)).mono ?_
      rintro e w2 ⟨hb2, N, rfl⟩
      have B2 := Lib.hid hb2
      clear hb2
      go_wp2_with fail
      go_ret
      exact ⟨rfl, (HB.out.below B1.out).below B2.out, grownBel (B1.out.trans (B2.out.mono B1.out.size)) _⟩
    | some n =>
      have hn : numP ends.data.toList s = (n, s.drop k) := by
        unfold numP; rw [hi, if_neg h0, Int.toNat_natCast, ha]
      rw [hn]
      rw [ha] at hac
      have HAC := Lib.hid hac
      have HX1 := Lib.hid ex1
      have HX2 := Lib.hid ex2
      clear hn hi hac ha ex1 ex2 h0
      go_enter Tryd.func64, Tryd.ntmps64
      go_wp2_with (go_at_call 73; refine HIA.out.mono ?_; rintro e w1 ⟨rfl, hb1⟩; have B1 := Lib.hid hb1; have c1 := (HB.out.below hb1).cell0; clear hb1)
      rw [HX1.out]
      refine (HAC.out _ (HL.out.below B1.out)).mono ?_
      rintro e w2 ⟨hb2, rfl⟩
      have B2 := Lib.hid hb2
      have c2 := ((HB.out.below B1.out).below hb2).cell0
      have f2 := ((HB.out.below B1.out).below hb2).fr 0
      have R2 := Lib.hid ((HB.out.below B1.out).below hb2)
      clear hb2
      go_wp2_with fail
      rw [HX2.out]
      go_ret
      exact ⟨rfl, R2.out.set0 _, grown_set (grownBel (B1.out.trans (B2.out.mono B1.out.size)) _) _ _⟩

theorem f64_one (c : UInt8) (hc : c.toNat < 128) (b : Nat) (s : Bs) (v : Value) (w : World) (h : RB w b s v) (hl : s.length ≤ 100000) (hlay : Lay w) :
    Calls Tryd.prog 64 #[.pointer (some ⟨b, 0, none⟩), .string ⟨#[c]⟩] w (CurPost (numP [c] s).1 b (numP [c] s).2 v w) :=
  f64_gen ⟨#[c]⟩ (fun s w _ => (f73_one s c w hc).mono fun _ _ hh => ⟨hh.1, by rw [hh.2]; exact Below.refl _ _⟩) b s v w h hl hlay
theorem f64_sep (b : Nat) (s : Bs) (v : Value) (w : World) (h : RB w b s v) (hl : s.length ≤ 100000) (hlay : Lay w) :
    Calls Tryd.prog 64 #[.pointer (some ⟨b, 0, none⟩), .string ⟨#[32, 10]⟩] w (CurPost (numP [32, 10] s).1 b (numP [32, 10] s).2 v w) :=
  f64_gen ⟨#[32, 10]⟩ (fun s w hs => f73_sep s w hs) b s v w h hl hlay

def SkipPost (c : UInt8) (s : Bs) (b : Nat) (v : Value) (w : World) (e : Ending) (w' : World) : Prop := e = .returned (.bool (hasP c s)) ∧ RB w' b (skipP c s) v ∧ w.grownBy w' (some b)
theorem has_pre (c : UInt8) (s : Bs) : Lib.hasPrefix s [c] = hasP c s := by
  cases s with
  | nil => rfl
  | cons a s =>
    rw [hasP_cons]
    show ((c == a) && true) = (a == c)
    rw [Bool.and_true, BEq.comm]
theorem trim_pre (c : UInt8) (s : Bs) : Lib.trimPrefix s [c] = skipP c s := by
  unfold Lib.trimPrefix skipP
  rw [has_pre, List.length_singleton, List.drop_one]
set_option maxRecDepth 100000 in
set_option maxHeartbeats 2000000 in
theorem f65_any (c : UInt8) (b : Nat) (s : Bs) (v : Value) (w : World) (h : RB w b s v) :
    Calls Tryd.prog 65 #[.pointer (some ⟨b, 0, none⟩), .string ⟨#[c]⟩] w (SkipPost c s b v w) := by
  have c0 := h.cell0
  have f0 := h.fr 0
  have HB := Lib.hid h
  have hcut := fun W => Tryd.strings_CutPrefix (bsA s) ⟨#[c]⟩ W
  have e1 : (⟨#[c]⟩ : ByteArray).data.toList = [c] := rfl
  rw [bsA_data, e1, has_pre, trim_pre] at hcut
  have HC := Lib.hid hcut
  clear hcut h e1
  go_enter Tryd.func65, Tryd.ntmps65
  go_wp2_with (go_at_call 75; refine (HC.out _).mono ?_; rintro e w1 ⟨rfl, rfl⟩)
  go_ret
  exact ⟨rfl, HB.out.set0 _, grown_set (grownBel (Below.refl _ _) _) _ _⟩
end Go.Proofs.YteilaajjpjhijaaDoor
