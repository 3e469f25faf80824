/- Walk of inserted. -/
import Derived.Test.YteilaajjpjhijaaDoorX2
namespace Go.Proofs.YteilaajjpjhijaaDoor
open Go.RowKit PSpec

/-- append of a part of a list of integers onto a row of the call's own -/
theorem wpList_appL {ops : Array Oper} {rest : List Oper} {o : Oper} {a : Act} {w : World} {Q : Exit → Act → World → Prop} (hgd : o.guard = none) (s x : Operand)
    (ho : o.op = .call { callee := .builtin .append, args := #[s, x], argTypes := #[26, 26] })
    (base : Nat) (v : Value) (n : Nat) (xs : List Value) (hs : a.eval s = v) (hown : w.ownsRow base 3 1 v n xs)
    (ys : List Int) (vy : Value) (hx : a.eval x = vy) (hy : Ints w vy ys) (hn : n + ys.length ≤ 1000000000) (hbase : base ≤ w.heap.size)
    (h : ∀ v' w', w'.ownsRow base 3 1 v' (n + ys.length) (xs ++ ys.map (Value.int .i64)) → w.grownBy w' v.ownBlock → (v'.ownBlock = v.ownBlock ∨ v'.ownBlock = some w.heap.size) → wpList Tryd.prog ops Q rest (a.put o.dst v') w') : wpList Tryd.prog ops Q (o :: rest) a w := by
  obtain ⟨i0, HI⟩ := Tryd.parts3
  obtain ⟨ad, cap, rfl, h1, h2, h3, h4⟩ := hy
  rcases ad with _ | ad
  · have hys : ys = [] := by
      cases ys with
      | nil => rfl
      | cons y ys => obtain ⟨_, _, e, _⟩ := h4 (by simp); simp at e
    subst hys
    refine wpList_plain hgd fun K hK => ?_
    have hr : (Builtin.append_ #[26, 26] o.type #[v, .slice none 0 cap]).run Tryd.prog w = .ok v w := by
      rcases hown.2 with ⟨rfl, _⟩ | ⟨g, c, cur, rfl, _, _, hnc, _⟩
      · simp [Builtin.append_, run_underlying Tryd.underlying26, sizeOf, typeInfo, HI.out.1, Builtin.lenOf, Builtin.firstCells]
      · simp [Builtin.append_, run_underlying Tryd.underlying26, sizeOf, typeInfo, HI.out.1, Builtin.lenOf, Builtin.firstCells, hnc, storeCells]
    unfold Oper.wp execOp
    simp only [ho, resolve, invoke, builtin, Sem.run_bind, Sem.run_pure, Result.andThen_ok, List.map_toArray, List.map_cons, List.map_nil, hs, hx, List.length_nil, hr]
    exact hK _ _ (h v w (by simpa using hown) (grown_self w _) (.inl rfl))
  · refine wpList_append_own_at w hgd s x 26 ho base 3 i0 (.int .i64 0) 1 8 Tryd.underlying26 HI.out.1 HI.out.2.1 HI.out.2.2.1 HI.out.2.2.2 rfl (by decide) v n xs hs hown ad ys.length cap (ys.map (Value.int .i64)) hx (by simp) ?_ ?_ ?_ ?_ hbase ?_
    · intro j u hu
      rw [List.getElem?_map] at hu
      cases hj : ys[j]? with
      | none => rw [hj] at hu; simp at hu
      | some y =>
        rw [hj] at hu
        obtain rfl : Value.int .i64 y = u := by simpa using hu
        obtain ⟨b, oo, e, hc⟩ := h4 (by rintro rfl; simp at hj)
        obtain rfl : ad = ⟨b, oo, none⟩ := by simpa using e
        rw [Addr.add_mid]
        exact hc j y hj
    · intro u hu
      obtain ⟨y, _, rfl⟩ := List.mem_map.1 hu
      rfl
    · unfold maxLen; omega
    · omega
    · exact fun v' w' h2 h3 _ h5 => h v' w' h2 h3 h5
/-- a list of integers, cut -/
theorem Ints.take {w : World} {cap : Nat} {xs : List Int} (a : Option Addr) (h : Ints w (.slice a xs.length cap) xs) (k : Nat) (hk : k ≤ xs.length) : Ints w (.slice a k cap) (xs.take k) := by
  obtain ⟨a', cap', e, h1, h2, h3, h4⟩ := h
  obtain ⟨rfl, rfl⟩ : a = a' ∧ cap = cap' := by simpa using e
  refine ⟨a, cap, by rw [List.length_take, Nat.min_eq_left hk], by rw [List.length_take]; omega, h2, fun x hx => h3 x (List.mem_of_mem_take hx), fun hne => ?_⟩
  obtain ⟨b, o, e, hc⟩ := h4 (by rintro rfl; simp at hne)
  refine ⟨b, o, e, fun i x hx => hc i x ?_⟩
  rw [List.getElem?_take] at hx
  split at hx
  · exact hx
  · simp at hx

theorem Ints.drop {w : World} {cap : Nat} {xs : List Int} (a : Option Addr) (h : Ints w (.slice a xs.length cap) xs) (k : Nat) (hk : k ≤ xs.length) : Ints w (.slice (a.map (·.add k)) (xs.length - k) (cap - k)) (xs.drop k) := by
  obtain ⟨a', cap', e, h1, h2, h3, h4⟩ := h
  obtain ⟨rfl, rfl⟩ : a = a' ∧ cap = cap' := by simpa using e
  refine ⟨_, cap - k, by rw [List.length_drop], by rw [List.length_drop]; omega, by omega, fun x hx => h3 x (List.mem_of_mem_drop hx), fun hne => ?_⟩
  obtain ⟨b, o, e, hc⟩ := h4 (by rintro rfl; simp at hne)
  refine ⟨b, o + k, by rw [e, Option.map_some, Addr.add_mid], fun i x hx => ?_⟩
  rw [List.getElem?_drop] at hx
  have := hc _ _ hx
  rw [show o + k + i = o + (k + i) by omega]
  exact this
theorem Ints.drop_end {w : World} {cap : Nat} {xs : List Int} (a : Option Addr) (h : Ints w (.slice a xs.length cap) xs) (k : Nat) (hk : k = xs.length) : Ints w (.slice a (xs.length - k) (cap - k)) (xs.drop k) := by
  obtain ⟨a', cap', e, h1, h2, h3, h4⟩ := h
  obtain ⟨rfl, rfl⟩ : a = a' ∧ cap = cap' := by simpa using e
  subst hk
  refine ⟨_, cap - xs.length, by rw [List.length_drop], by rw [List.length_drop]; omega, by omega, fun x hx => h3 x (List.mem_of_mem_drop hx), fun hne => absurd (List.drop_length) hne⟩
theorem cell_one (w : World) (x : Value) (t : TypeId) : (w.alloc (.cells #[x] t)).cell? ⟨w.heap.size, 0, none⟩ = some x := by
  rw [cell_of_row _ _ 0 _ _ _ (World.alloc_heap_new w _)]; rfl
theorem le_alloc (w : World) (o : Obj) : w.heap.size ≤ (w.alloc o).heap.size := by rw [World.size_alloc]; omega
theorem own_empty (w : World) (_hb : (w.alloc (.cells #[] 3)).heap.size = w.heap.size + 1) : (w.alloc (.cells #[] 3)).ownsRow w.heap.size 3 1 (.slice (some ⟨w.heap.size, 0, none⟩) 0 0) 0 [] :=
  ⟨rfl, .inr ⟨w.heap.size, 0, #[], rfl, Nat.le_refl _, World.alloc_heap_new _ _, Nat.le_refl _, by decide, rfl, rfl⟩⟩

theorem Ints.i64 {w : World} {v : Value} {xs : List Int} (h : Ints w v xs) : ∀ x, x ∈ xs → I64 x := by
  obtain ⟨_, _, _, _, _, h3, _⟩ := h
  exact h3
def InsPost (l : List Int) (k : Nat) (x : Int) (w : World) (e : Ending) (w' : World) : Prop := ∃ v, e = .returned v ∧ Ints w' v (insAt l k x) ∧ Below w.heap.size w w'
set_option maxRecDepth 100000 in
set_option maxHeartbeats 4000000 in
theorem f28_any (v : Value) (l : List Int) (k : Nat) (x : Int) (w : World) (hv : Ints w v l) (hk : k ≤ l.length) (hl : l.length ≤ 1000) (hx : I64 x) :
    Calls Tryd.prog 28 #[v, .int .i64 k, .int .i64 x] w (InsPost l k x w) := by
  have HV := Lib.hid hv
  obtain ⟨a, cap, rfl, h1, h2, h3, h4⟩ := hv
  unfold maxLen at h2
  clear h3 h4
  have hoe := own_empty w (by simp)
  have ba : Below w.heap.size w (w.alloc (.cells #[] 3)) := (Below.refl _ _).alloc (Nat.le_refl _) _
  have BA := Lib.hid ba
  have HOE := Lib.hid hoe
  have hkc : (k : Int) ≤ (cap : Int) := by omega
  have hkl : (k : Int) ≤ (l.length : Int) := by omega
  clear ba hoe
  have hlt : (l.take k).length ≤ 1000 := by rw [List.length_take]; omega
  have fin0 : ∀ (v3 : Value) (w3 : World), w3.ownsRow w.heap.size 3 1 v3 ((l.take k).length + 1 + (l.drop k).length) (((l.take k).map (Value.int .i64) ++ [.int .i64 x]) ++ (l.drop k).map (Value.int .i64)) → Below w.heap.size w w3 → InsPost l k x w (.returned v3) w3 := fun v3 w3 ho hb => by
    refine ⟨v3, rfl, ints_own (xs := insAt l k x) (n := (l.take k).length + 1 + (l.drop k).length) (base := w.heap.size) ?_ ?_, hb⟩
    · have e : ((l.take k).map (Value.int .i64) ++ [.int .i64 x]) ++ (l.drop k).map (Value.int .i64) = (insAt l k x).map (Value.int .i64) := by simp [insAt]
      rw [← e]; exact ho
    · intro y hy
      unfold insAt at hy
      rcases List.mem_append.1 hy with hy | hy
      · exact HV.out.i64 y (List.mem_of_mem_take hy)
      · rcases List.mem_cons.1 hy with rfl | hy
        · exact hx
        · exact HV.out.i64 y (List.mem_of_mem_drop hy)
  have fin : ∀ (v3 : Value) (w3 : World), w3.ownsRow w.heap.size 3 1 v3 (k + 1 + (l.length - k)) (List.take k (l.map (Value.int .i64)) ++ .int .i64 x :: List.drop k (l.map (Value.int .i64))) → Below w.heap.size w w3 → InsPost l k x w (.returned v3) w3 := fun v3 w3 ho hb => by
    refine fin0 v3 w3 ?_ hb
    rw [List.length_take, List.length_drop, Nat.min_eq_left hk]
    simpa using ho
  have fine : ∀ (v3 : Value) (w3 : World), k = l.length → w3.ownsRow w.heap.size 3 1 v3 (k + 1) (List.take k (l.map (Value.int .i64)) ++ [.int .i64 x]) → Below w.heap.size w w3 → InsPost l k x w (.returned v3) w3 := fun v3 w3 e ho hb => by
    refine fin0 v3 w3 ?_ hb
    rw [List.length_take, List.length_drop, Nat.min_eq_left hk]
    subst e
    rw [← List.map_take, List.take_of_length_le (Nat.le_refl _)] at ho
    simpa [List.take_of_length_le] using ho
  clear fin0
  have FIN := Lib.hid fin
  have FINE := Lib.hid fine
  clear fine
  have ht := HV.out.take a k hk
  have HT := Lib.hid ht
  have hdl : (l.drop k).length ≤ 1000 := by rw [List.length_drop]; omega
  have HX := Lib.hid hx
  clear fin ht hx
  by_cases hck : cap = k
  · subst hck
    have hle : cap = l.length := by omega
    have HD : Hid (∀ W, Ints W (.slice a 0 0) []) := fun W => ⟨a, 0, rfl, Nat.le_refl _, by decide, by simp, by simp⟩
    have hd := HD
    have HLE := Lib.hid hle
    clear hd hle
    go_enter Tryd.func28, Tryd.ntmps28
    go_wp2_with (first
      | (at_builtin; refine wpList_appL rfl (.tmp 8) (.tmp 11) rfl w.heap.size _ 0 [] rfl HOE.out (l.take cap) (.slice a cap cap) rfl (HT.out.below BA.out) (Nat.le_trans (Nat.add_le_add_left hlt 0) (by decide)) BA.out.size ?_; intro v1 w1 hown1 hg1 _; rw [Nat.zero_add, List.nil_append] at hown1; have HO1 := Lib.hid hown1; have HB1 : Hid (Below w.heap.size w w1) := (BA.out.grown hg1 BA.out.size (fun j e => (HOE.out.lt j e).1)); clear hown1 hg1)
      | (at_builtin; refine wpList_appI rfl (.tmp 13) (.tmp 15) rfl w.heap.size _ _ _ rfl (HO1.out.alloc _) w1.heap.size (.int .i64 x) rfl (cell_one _ _ _) rfl (Nat.le_trans hlt (by decide)) (Nat.le_trans HB1.out.size (le_alloc _ _)) ?_; intro v2 w2 hown2 hg2; have HO2 := Lib.hid hown2; have HB2 : Hid (Below w.heap.size w w2) := ((HB1.out.alloc HB1.out.size _).grown hg2 (Nat.le_trans HB1.out.size (le_alloc _ _)) (fun j e => (HO1.out.lt j e).1)); clear hown2 hg2)
      | (at_builtin; refine wpList_appL rfl (.tmp 17) (.tmp 20) rfl w.heap.size _ _ _ rfl HO2.out [] (.slice a 0 0) rfl (HD.out _) ?_ HB2.out.size ?_))
    · simp only [List.length_nil]; omega
    · intro v3 w3 hown3 hg3 _
      have HO3 := Lib.hid (FINE.out v3 w3 HLE.out hown3 (HB2.out.grown hg3 HB2.out.size (fun j e => (HO2.out.lt j e).1)))
      clear hown3 hg3
      go_wp2_with fail
      go_ret
      exact HO3.out
  · have hd := HV.out.drop a k hk
    have HD := Lib.hid hd
    have hck' : (cap == k) = false := by simpa using hck
    clear hd
    go_enter Tryd.func28, Tryd.ntmps28
    go_wp2_with (first
      | (at_builtin; refine wpList_appL rfl (.tmp 8) (.tmp 11) rfl w.heap.size _ 0 [] rfl HOE.out (l.take k) (.slice a k cap) rfl (HT.out.below BA.out) (Nat.le_trans (Nat.add_le_add_left hlt 0) (by decide)) BA.out.size ?_; intro v1 w1 hown1 hg1 _; rw [Nat.zero_add, List.nil_append] at hown1; have HO1 := Lib.hid hown1; have HB1 : Hid (Below w.heap.size w w1) := (BA.out.grown hg1 BA.out.size (fun j e => (HOE.out.lt j e).1)); clear hown1 hg1)
      | (at_builtin; refine wpList_appI rfl (.tmp 13) (.tmp 15) rfl w.heap.size _ _ _ rfl (HO1.out.alloc _) w1.heap.size (.int .i64 x) rfl (cell_one _ _ _) rfl (Nat.le_trans hlt (by decide)) (Nat.le_trans HB1.out.size (le_alloc _ _)) ?_; intro v2 w2 hown2 hg2; have HO2 := Lib.hid hown2; have HB2 : Hid (Below w.heap.size w w2) := ((HB1.out.alloc HB1.out.size _).grown hg2 (Nat.le_trans HB1.out.size (le_alloc _ _)) (fun j e => (HO1.out.lt j e).1)); clear hown2 hg2)
      | (at_builtin; refine wpList_appL rfl (.tmp 17) (.tmp 20) rfl w.heap.size _ _ _ rfl HO2.out (l.drop k) _ rfl (HD.out.below HB2.out) ?_ HB2.out.size ?_))
    · omega
    · intro v3 w3 hown3 hg3 _
      have HO3 := Lib.hid (FIN.out v3 w3 hown3 (HB2.out.grown hg3 HB2.out.size (fun j e => (HO2.out.lt j e).1)))
      clear hown3 hg3
      go_wp2_with fail
      go_ret
      exact HO3.out
end Go.Proofs.YteilaajjpjhijaaDoor
