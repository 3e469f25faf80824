/- Walks of line and Print. -/
import Derived.Test.YteilaajjpjhijaaDoorX6
import Derived.Test.YteilaajjpjhijaaDoorX1
import Derived.StillTailTactics
namespace Go.Proofs.YteilaajjpjhijaaDoor
open Go.RowKit PSpec

theorem itoa_call (n : Int) (h0 : 0 ≤ n) (h1 : n < 100) (w : World) : Calls Tryd.prog 62 #[.int .i64 n] w fun e w' => e = .returned (.string (bsA (dgs n))) ∧ w' = w := by
  obtain ⟨k, rfl⟩ : ∃ k : Nat, n = k := ⟨n.toNat, by omega⟩
  have := Tryd.strconv_Itoa_small k (by omega) w
  unfold dgs bsA
  rw [Int.toNat_natCast]
  exact this
theorem data_app (s t : ByteArray) : (s ++ t).data.toList = s.data.toList ++ t.data.toList := by simp
theorem app_bsA (a : Bs) (t : ByteArray) : bsA a ++ t = bsA (a ++ t.data.toList) := by
  rw [← bsA_of (bsA a ++ t), data_app, bsA_data]
theorem app_bsA2 (a : ByteArray) (b : Bs) : a ++ bsA b = bsA (a.data.toList ++ b) := by
  rw [← bsA_of (a ++ bsA b), data_app, bsA_data]
theorem strCells_bsA (l : Bs) : Lib.strCells (bsA l) = Lib.byteCells l := by rw [Lib.strCells_eq, bsA_data]
theorem build_new (w : World) (b : Nat) (hb : w.heap[b]? = some (.cells #[.pointer none, .slice none 0 0] 82 (0, 0))) : Lib.IsBuilderF 82 5 b b (Lib.byteCells []) w :=
  .inl ⟨Nat.le_refl _, _, hb, ⟨rfl, .inl ⟨rfl, rfl⟩⟩, by simp [Value.ownBlock]⟩
/-- the builder's write -/
theorem write_call (b : Nat) (l t : Bs) (w : World) (h : Lib.IsBuilderF 82 5 b b (Lib.byteCells l) w) (hl : l.length + t.length ≤ 1000000) (hb : b ≤ w.heap.size) :
    Calls Tryd.prog 45 #[.pointer (some ⟨b, 0, none⟩), .string (bsA t)] w fun e w' => (∃ n : Int, e = .returned (.tuple #[.int .i64 n, .nilIface])) ∧ Lib.IsBuilderF 82 5 b b (Lib.byteCells (l ++ t)) w' ∧ Below b w w' :=
  (f45_any b b (Lib.byteCells l) (bsA t) w h (by rw [Lib.byteCells_length, bsA_size]; omega) hb).mono fun e w' hh => ⟨⟨_, hh.1⟩, by rw [Lib.byteCells_append, ← strCells_bsA t]; exact hh.2.1, hh.2.2⟩

/-- a builder where nothing that was there has turned -/
theorem build_keep {b : Nat} {bs : List Value} {w w' : World} (h : Lib.IsBuilderF 82 5 b b bs w) (hb : Below w.heap.size w w') : Lib.IsBuilderF 82 5 b b bs w' := by
  have key : ∀ p, Lib.BuilderAtF 82 5 b b p bs w → Lib.BuilderAtF 82 5 b b p bs w' := by
    rintro p ⟨h1, v, hbk, hown, hne⟩
    refine ⟨h1, v, (hb.block b (heap_lt hbk)).trans hbk, hown.kept (grownBel hb none) ?_, hne⟩
    cases hv : v.ownBlock with
    | none => exact .inl rfl
    | some g => exact .inr (by simp)
  exact h.elim (fun x => .inl (key _ x)) (fun x => .inr (key _ x))

theorem items_len (its : List It) (h : its.all itB = true) : (its.flatMap itemS).length ≤ 9 * its.length := by
  induction its with
  | nil => simp
  | cons x its ih =>
    simp only [List.all_cons, Bool.and_eq_true] at h
    obtain ⟨⟨a0, a1⟩, ⟨b0, b1⟩, c0, c1⟩ := it_lt h.1
    have h1 := (dgs_len x.1 a0 a1).2
    have h2 := (dgs_len x.2.1 b0 b1).2
    have h3 := (dgs_len x.2.2 c0 c1).2
    have := ih h.2
    simp only [List.flatMap_cons, List.length_append, itemS, List.length_cons]
    omega
theorem line_len (r : Rl) (h : ruleB r = true) : (lineS r).length ≤ 58 := by
  simp only [ruleB, Bool.and_eq_true, decide_eq_true_eq] at h
  obtain ⟨o0, o1⟩ := op_lt h.1.1
  have h1 := (dgs_len r.1 o0 o1).2
  have h2 := items_len r.2 h.2
  simp only [lineS, List.length_append, List.length_cons, List.length_nil]
  omega
theorem flat_snoc {α : Type} (f : α → Bs) (l : List α) (k : Nat) (x : α) (h : l[k]? = some x) : (l.take (k + 1)).flatMap f = (l.take k).flatMap f ++ f x := by
  rw [List.take_add_one, h, List.flatMap_append]
  simp

theorem wp_region_stillD {P : Program} {id : Nat} {Q : Exit → Act → World → Prop} {a : Act} {w : World} {l : List Oper} (n : Nat) (hm : P.follows .mixedOrders = true) (hB : Region.lexTailB .any l.toArray n = true)
    (h : wpStill P l.toArray w.drew (fun a' => wpList P l.toArray Q (l.drop n) a' w.drew) (l.take n) a) : (Code.region id l.toArray true).wp P Q a w :=
  wp_region_still_tail n hm hB h

set_option maxRecDepth 100000 in
set_option maxHeartbeats 4000000 in
theorem f46_any (r : Rl) (iv : Value) (w : World) (hi : Items w iv r.2) (hB : ruleB r = true) :
    Calls Tryd.prog 46 #[.agg #[.int .i64 r.1, iv]] w fun e w' => e = .returned (.string (bsA (lineS r))) ∧ Below w.heap.size w w' := by
  have hll := line_len r hB
  obtain ⟨o, its⟩ := r
  have hop : opB o = true := by
    simp only [ruleB, Bool.and_eq_true] at hB
    exact hB.1.1
  have hall : its.all itB = true := by
    simp only [ruleB, Bool.and_eq_true] at hB
    exact hB.2
  obtain ⟨o0, o1⟩ := op_lt hop
  have hd := dgs_len o o0 o1
  have hil : its.length ≤ 6 := by
    simp only [ruleB, Bool.and_eq_true, decide_eq_true_eq] at hB
    exact hB.1.2
  obtain ⟨a, cap, rfl, h1, h2, h3⟩ := hi
  unfold maxLen at h2
  simp only at h1 h3 ⊢
  have HALL := Lib.hid hall
  have HLL := Lib.hid hll
  have H3 := Lib.hid h3
  have HD := Lib.hid hd
  clear hB hop hall hll h3 hd
  have hbn : ∀ o1 : Obj, Lib.IsBuilderF 82 5 (w.heap.size + 1) (w.heap.size + 1) (Lib.byteCells []) ((w.alloc o1).alloc (.cells #[.pointer none, .slice none 0 0] 82)) := fun o1 => by
    have := build_new ((w.alloc o1).alloc (.cells #[.pointer none, .slice none 0 0] 82)) (w.alloc o1).heap.size (World.alloc_heap_new _ _)
    rw [World.size_alloc] at this
    exact this
  have ea : bsA (dgs o) ++ (⟨#[58]⟩ : ByteArray) = bsA (dgs o ++ [58]) := app_bsA _ _
  have HBN := Lib.hid hbn
  have EA := Lib.hid ea
  have hs0 : (bsA (dgs o)).size ≤ 2 := by rw [bsA_size]; exact HD.out.2
  clear hbn ea
  go_enter Tryd.func46, Tryd.ntmps46
  go_wp2_with (go_at_call 62; refine (itoa_call _ o0 o1 _).mono ?_; rintro e w1 ⟨rfl, hw⟩; rw [hw]; clear hw)
  rw [EA.out]
  refine (write_call _ _ _ _ (HBN.out _) (by have := HD.out; simp; omega) (by simp)).mono ?_
  rintro e w2 ⟨⟨n2, rfl⟩, hbu, hb2⟩
  rw [List.nil_append] at hbu
  have HBU := Lib.hid hbu
  have hbw : Below w.heap.size w w2 := (((Below.refl _ _).alloc (Nat.le_refl _) _).alloc (by simp) _).trans (hb2.mono (by omega))
  have hsz : w.heap.size + 1 + 1 ≤ w2.heap.size := by have := hb2.size; simp at this; omega
  have hc0 : w2.cell? ⟨w.heap.size, 1, none⟩ = some (.slice a its.length cap) := by
    rw [hb2.cell (p := ⟨w.heap.size, 1, none⟩) (by simp)]
    go_simp
  have HBW := Lib.hid hbw
  clear hbu hbw hb2
  go_wp2_with fail
  clear hc0
  clear hs0
  go_loopw [14] (fun i wr => ∃ k : Nat, k ≤ its.length ∧ i = .int .i64 k ∧ Lib.IsBuilderF 82 5 (w.heap.size + 1) (w.heap.size + 1) (Lib.byteCells ((dgs o ++ [58]) ++ (its.take k).flatMap itemS)) wr ∧ Below w.heap.size w wr ∧ w.heap.size + 1 ≤ wr.heap.size) (fun i _ => its.length - (intOf i).toNat)
  case atStart => exact ⟨0, Nat.zero_le _, rfl, by simpa using HBU.out, HBW.out, by omega⟩
  case round =>
    obtain ⟨k, hk, rfl, hbu, hb, hsz3⟩ := hrel
    have HBU2 := Lib.hid hbu
    have HB2 := Lib.hid hb
    clear hbu hb HBU HBW
    by_cases hlt : k < its.length
    · obtain ⟨x, hx⟩ := get_some its k hlt
      obtain ⟨b, oo, rfl, hc⟩ := H3.out (by rintro rfl; simp at hlt)
      obtain ⟨c0, c1, c2⟩ := (hc k x hx).keep (keeps_of_below HB2.out)
      have hxB : itB x = true := List.all_eq_true.1 HALL.out x (List.mem_of_getElem? hx)
      have hxl : ((dgs o ++ [58]) ++ (its.take (k + 1)).flatMap itemS).length ≤ 1000 := by
        have h1 := items_len (its.take (k + 1)) (by
          rw [List.all_eq_true]
          intro y hy
          exact List.all_eq_true.1 HALL.out y (List.mem_of_mem_take hy))
        have h2 := HD.out.2
        rw [List.length_append, List.length_append, List.length_singleton]
        have h4 : (its.take (k + 1)).length ≤ 6 := by rw [List.length_take]; omega
        omega
      have hsn := flat_snoc itemS its k x hx
      rw [hsn, ← List.append_assoc, List.length_append] at hxl
      obtain ⟨⟨a0, a1⟩, ⟨b0, b1⟩, d0, d1⟩ := it_lt hxB
      obtain ⟨x1, x2, x3⟩ := x
      simp only at c0 c1 c2 a0 a1 b0 b1 d0 d1
      have hs1 : (bsA (dgs x1)).size ≤ 2 := by rw [bsA_size]; exact (dgs_len x1 a0 a1).2
      have hs2 : (bsA (dgs x2)).size ≤ 2 := by rw [bsA_size]; exact (dgs_len x2 b0 b1).2
      have hs3 : (bsA (dgs x3)).size ≤ 2 := by rw [bsA_size]; exact (dgs_len x3 d0 d1).2
      have HX := Lib.hid hx
      have HSN := Lib.hid hsn
      have HXL := Lib.hid hxl
      clear hx hc hxB hsn hxl
      go_wp2_with fail
      refine wp_region_stillD 14 (by kernel_rfl) (by kernel_rfl) ?_
      simp only [List.take_succ_cons, List.take_zero, List.drop_succ_cons, List.drop_zero]
      repeat (first | still_call (itoa_call _ (by omega) (by omega) _) | still_step | (refine wpStill_step (fun K hK => ?_); go_simp; rw [if_neg (by omega)]; refine ⟨rfl, hK _ ?_⟩; clear hK K))
      refine wpStill_nil ?_
      obtain ⟨W, hW⟩ : ∃ W, W = (wr.alloc (.cells #[.int .i64 x1, .int .i64 x2, .int .i64 x3] 59)).drew := ⟨_, rfl⟩
      have hb3 : Below wr.heap.size wr W := by rw [hW]; exact ((Below.refl _ _).alloc (Nat.le_refl _) _).drew
      have hbu3 : Lib.IsBuilderF 82 5 (w.heap.size + 1) (w.heap.size + 1) (Lib.byteCells ((dgs o ++ [58]) ++ (its.take k).flatMap itemS)) W := build_keep HBU2.out hb3
      rw [← hW]
      have HBU3 := Lib.hid hbu3
      have HB3 := Lib.hid hb3
      clear hbu3 hb3 hW
      have es : (⟨#[32]⟩ : ByteArray) ++ bsA (dgs x1) ++ (⟨#[42]⟩ : ByteArray) ++ bsA (dgs x2) ++ (⟨#[45]⟩ : ByteArray) ++ bsA (dgs x3) = bsA (itemS (x1, x2, x3)) := by
        rw [← bsA_of (_ ++ _ ++ _ ++ _ ++ _ ++ _)]
        congr 1
        simp only [data_app, bsA_data, itemS]
        simp
      have ES := Lib.hid es
      have hszW : w.heap.size + 1 ≤ W.heap.size := Nat.le_trans hsz3 HB3.out.size
      clear es
      go_wp2_with fail
      rw [ES.out]
      refine (write_call _ _ _ _ HBU3.out (by have := HXL.out; omega) hszW).mono ?_
      rintro e w4 ⟨⟨n4, rfl⟩, hbu4, hb4⟩
      have HBU4 := Lib.hid hbu4
      have HB4 : Hid (Below w.heap.size w w4) := (HB2.out.trans (HB3.out.mono HB2.out.size)).trans (hb4.mono (by omega))
      have hsz4 : w.heap.size + 1 ≤ w4.heap.size := Nat.le_trans hszW hb4.size
      clear hbu4 hb4
      go_wp2_with fail
      go_roundw
      case rel => exact ⟨k + 1, by omega, by go_num, by rw [HSN.out, ← List.append_assoc]; exact HBU4.out, HB4.out, hsz4⟩
      case measure => simp [intOf]; omega
    · obtain rfl : k = its.length := by omega
      rw [List.take_length] at HBU2
      have hstr := Tryd.Builder_String_any_f _ _ _ _ HBU2.out hsz3
      have eq0 : (dgs o ++ [58]) ++ its.flatMap itemS = dgs o ++ 58 :: its.flatMap itemS := by simp
      rw [eq0] at hstr
      have HS : Hid (Calls Tryd.prog 47 #[.pointer (some ⟨w.heap.size + 1, 0, none⟩)] wr fun e w' => e = .returned (.string (bsA (dgs o ++ 58 :: its.flatMap itemS))) ∧ Below (w.heap.size + 1) wr w') := hstr.mono fun _ _ hh => ⟨hh.1, hh.2.2⟩
      have hsl : (bsA (dgs o ++ 58 :: its.flatMap itemS)).size ≤ 100 := by
        rw [bsA_size]
        have := HLL.out
        simp only [lineS, List.length_append, List.length_cons, List.length_nil] at this ⊢
        omega
      have es : bsA (dgs o ++ 58 :: its.flatMap itemS) ++ (⟨#[10]⟩ : ByteArray) = bsA (lineS (o, its)) := by
        rw [app_bsA]
        congr 1
        simp [lineS]
      clear eq0
      have ES := Lib.hid es
      clear es hstr
      go_wp2_with (go_at_call 47; refine HS.out.mono ?_; rintro e w5 ⟨rfl, hb5⟩)
      rw [ES.out]
      go_ret
      exact ⟨rfl, HB2.out.trans (hb5.mono (by omega))⟩

end Go.Proofs.YteilaajjpjhijaaDoor
