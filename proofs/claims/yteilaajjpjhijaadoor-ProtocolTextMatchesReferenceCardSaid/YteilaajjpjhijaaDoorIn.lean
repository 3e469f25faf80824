/- Laws of the walk inside a fence: whole rows of counts, the map of counts. -/
import Derived.Test.YteilaajjpjhijaaDoorRng
import Derived.Test.YteilaajjpjhijaaDoorDp
namespace Go.Proofs.YteilaajjpjhijaaDoor
open Go.RowKit PSpec
section
variable {F : Fence} {n : Nat} {ops : Array Oper} {Q : Exit → Act → World → Prop} {a : Act} {w : World} {rest : List Oper} {o : Oper}

theorem wpListIn_val (hF : ∀ f, F.fn f) (hgd : o.guard = none) (hnd : ∀ c, o.op ≠ .defer c) (v : Value) (w' : World) (hr : (execOp a.eval o).run Tryd.prog w = .ok (.value v) w')
    (h : wpListIn F n Tryd.prog ops Q rest (a.put o.dst v) w') : wpListIn F n Tryd.prog ops Q (o :: rest) a w :=
  wpListIn_plain hgd fun K hK => ⟨fun f _ => hF f, by rw [Oper.semAt_eq _ _ _ hnd, hr]; exact hK _ _ h⟩
theorem wpListIn_skp (hF : ∀ f, F.fn f) (hgd : o.guard = none) (hnd : ∀ c, o.op ≠ .defer c) (w' : World) (hr : (execOp a.eval o).run Tryd.prog w = .ok .skip w')
    (h : wpListIn F n Tryd.prog ops Q rest (a.put o.dst undef) w') : wpListIn F n Tryd.prog ops Q (o :: rest) a w :=
  wpListIn_plain hgd fun K hK => ⟨fun f _ => hF f, by rw [Oper.semAt_eq _ _ _ hnd, hr]; exact hK _ _ h⟩

theorem wpListIn_valG (hF : ∀ f, F.fn f) (hw : Region.wanted o (yielded ops a.tmps) = true) (hnd : ∀ c, o.op ≠ .defer c) (v : Value) (w' : World) (hr : (execOp a.eval o).run Tryd.prog w = .ok (.value v) w')
    (h : wpListIn F n Tryd.prog ops Q rest (a.put o.dst v) w') : wpListIn F n Tryd.prog ops Q (o :: rest) a w :=
  wpListIn_step fun K hK => by rw [if_pos hw]; exact ⟨fun f _ => hF f, by rw [Oper.semAt_eq _ _ _ hnd, hr]; exact hK _ _ h⟩
theorem wpListIn_load66G (hF : ∀ f, F.fn f) (hw : Region.wanted o (yielded ops a.tmps) = true) (x : Operand) (ho : o.op = .load 66 x) (g : Nat) (hx : a.eval x = .pointer (some ⟨g, 0, none⟩)) (A : Array Value) (hr : rowC w g = A) (hA : A.size = 12)
    (h : wpListIn F n Tryd.prog ops Q rest (a.put o.dst (.agg A)) w) : wpListIn F n Tryd.prog ops Q (o :: rest) a w :=
  wpListIn_valG hF hw (by simp [ho]) _ _ (run_load66 (S := fun w' => w' = w) x ho g hx A hA (fun w' e => by rw [e]; exact hr) w rfl) h
theorem wpListIn_load66 (hF : ∀ f, F.fn f) (hgd : o.guard = none) (x : Operand) (ho : o.op = .load 66 x) (g : Nat) (hx : a.eval x = .pointer (some ⟨g, 0, none⟩)) (A : Array Value) (hr : rowC w g = A) (hA : A.size = 12)
    (h : wpListIn F n Tryd.prog ops Q rest (a.put o.dst (.agg A)) w) : wpListIn F n Tryd.prog ops Q (o :: rest) a w :=
  wpListIn_val hF hgd (by simp [ho]) _ _ (run_load66 (S := fun w' => w' = w) x ho g hx A hA (fun w' e => by rw [e]; exact hr) w rfl) h
theorem run_store66 (x y : Operand) (ho : o.op = .store 66 x y) (g : Nat) (A B : Array Value) (hx : a.eval x = .pointer (some ⟨g, 0, none⟩)) (hy : a.eval y = .agg A) (hr : rowC w g = B) (hB : B.size = 12) (hA : A.size = 12) (h1 : cells1 A = true) :
    (execOp a.eval o).run Tryd.prog w = .ok .skip (w.setRow g A) := by
  obtain ⟨t, ht⟩ := rowC_heap (w := w) (g := g) (by rw [hr]; omega)
  rw [hr] at ht
  unfold execOp
  simp only [ho, hx, hy, Instr.storeAt, Instr.sureAddr, Sem.run_bind, Sem.run_pure, Result.andThen_ok, run_storeVar_row w g t 66 B A ht (show (Tryd.prog.info? 66).map (·.size) = some A.size by rw [hA]; exact info66) (by omega) h1]
theorem wpListIn_store66 (hF : ∀ f, F.fn f) (hgd : o.guard = none) (x y : Operand) (ho : o.op = .store 66 x y) (g : Nat) (A B : Array Value) (hx : a.eval x = .pointer (some ⟨g, 0, none⟩)) (hy : a.eval y = .agg A) (hr : rowC w g = B) (hB : B.size = 12) (hA : A.size = 12) (h1 : cells1 A = true)
    (h : wpListIn F n Tryd.prog ops Q rest (a.put o.dst undef) (w.setRow g A)) : wpListIn F n Tryd.prog ops Q (o :: rest) a w :=
  wpListIn_skp hF hgd (by simp [ho]) _ (run_store66 x y ho g A B hx hy hr hB hA h1) h
theorem wpListIn_next (hF : ∀ f, F.fn f) (hgd : o.guard = none) (x : Operand) (ho : o.op = .next x false) (b r : Nat) (L : ML) (seen : List Nat) (hx : a.eval x = .pointer (some ⟨r, 0, none⟩)) (hb : w.heap[b]? = some (mapObj L)) (hr : w.heap[r]? = some (itObj b L seen))
    (hover : candsOf L seen = [] → wpListIn F n Tryd.prog ops Q rest (a.put o.dst (.tuple #[.bool false])) w)
    (hnext : ∀ i p w1, L[i]? = some p → i ∉ seen → (w1 = w ∨ w1 = w.drew) → wpListIn F n Tryd.prog ops Q rest (a.put o.dst (.tuple #[.bool true, .int .i64 p.1, .agg (arrC p.2)])) (w1.putObj r (itObj b L (seen ++ [i])))) :
    wpListIn F n Tryd.prog ops Q (o :: rest) a w := by
  rcases run_next_raw hb hr o.type with ⟨h0, hrun⟩ | ⟨i, p, w1, hp, hs, hw, hrun⟩
  · refine wpListIn_val hF hgd (by simp [ho]) _ w ?_ (hover h0)
    unfold execOp
    simp only [ho, hx, Sem.run_bind, hrun, Result.andThen_ok, Sem.run_pure]
  · refine wpListIn_val hF hgd (by simp [ho]) _ _ ?_ (hnext i p w1 hp hs hw)
    unfold execOp
    simp only [ho, hx, Sem.run_bind, hrun, Result.andThen_ok, Sem.run_pure]
theorem wpListIn_entry (hF : ∀ f, F.fn f) (hgd : o.guard = none) (x : Operand) (ho : o.op = .entry x) (b r i : Nat) (L : ML) (seen : List Nat) (p : Int × (Nat → Int)) (hx : a.eval x = .pointer (some ⟨r, 0, none⟩)) (hb : w.heap[b]? = some (mapObj L)) (hr : w.heap[r]? = some (itObj b L (seen ++ [i]))) (hp : L[i]? = some p)
    (h : wpListIn F n Tryd.prog ops Q rest (a.put o.dst (.tuple #[.int .i64 p.1, .agg (arrC p.2)])) w) : wpListIn F n Tryd.prog ops Q (o :: rest) a w := by
  refine wpListIn_val hF hgd (by simp [ho]) _ w ?_ h
  unfold execOp
  simp only [ho, hx, Sem.run_bind, run_entry hb hr hp, Result.andThen_ok, Sem.run_pure]
theorem wpListIn_range (hF : ∀ f, F.fn f) (hgd : o.guard = none) (x : Operand) (ho : o.op = .range 96 x) (b : Nat) (L : ML) (hx : a.eval x = .map (some b)) (hb : w.heap[b]? = some (mapObj L))
    (h : wpListIn F n Tryd.prog ops Q rest (a.put o.dst (.pointer (some ⟨w.heap.size, 0, none⟩))) (w.alloc (itObj b L []))) : wpListIn F n Tryd.prog ops Q (o :: rest) a w := by
  refine wpListIn_val hF hgd (by simp [ho]) _ _ ?_ h
  unfold execOp
  simp only [ho, hx, Sem.run_bind, run_rangeMap hb, Result.andThen_ok, Sem.run_pure]
  rfl
theorem wpListIn_lookup96 (hF : ∀ f, F.fn f) (hgd : o.guard = none) (x k : Operand) (ho : o.op = .lookup 96 x k true) (b : Nat) (L : ML) (j : Int) (hx : a.eval x = .map (some b)) (hk : a.eval k = .int .i64 j) (hb : w.heap[b]? = some (mapObj L))
    (h : wpListIn F n Tryd.prog ops Q rest (a.put o.dst (.tuple #[.agg (arrC ((lk L j).getD fun _ => 0)), .bool (lk L j).isSome])) w) : wpListIn F n Tryd.prog ops Q (o :: rest) a w := by
  refine wpListIn_val hF hgd (by simp [ho]) _ w ?_ h
  unfold execOp
  simp only [ho, hx, hk, Sem.run_bind, run_lookup j hb, Result.andThen_ok, Sem.run_pure]
theorem wpListIn_update96 (hF : ∀ f, F.fn f) (hgd : o.guard = none) (x k y : Operand) (ho : o.op = .mapUpdate 96 x k y ∨ o.op = .insert 96 x k y) (b : Nat) (L : ML) (j : Int) (c : Nat → Int) (hx : a.eval x = .map (some b)) (hk : a.eval k = .int .i64 j) (hy : a.eval y = .agg (arrC c)) (hb : w.heap[b]? = some (mapObj L))
    (h : wpListIn F n Tryd.prog ops Q rest (a.put o.dst undef) (w.putObj b (mapObj (up L j c)))) : wpListIn F n Tryd.prog ops Q (o :: rest) a w := by
  refine wpListIn_skp hF hgd (by rcases ho with ho | ho <;> simp [ho]) _ ?_ h
  unfold execOp
  rcases ho with ho | ho
  · simp only [ho, hx, hk, hy, Sem.run_bind, run_mapUpdate j c hb, Result.andThen_ok, Sem.run_pure]
  · simp only [ho, hx, hk, hy, Sem.run_bind, run_mapUpdate j c hb, Result.andThen_ok, Sem.run_pure]
end
theorem wpIn_region_fin_lit {F : Fence} {n : Nat} {P : Program} {l : List Oper} {Q : Exit → Act → World → Prop} {id : Nat} {a : Act} {w : World} (m : Nat) (aF : Act) (S : World → Prop) (hF : ∀ f, F.fn f) (hm : P.follows .mixedOrders = true) (hck : ckF l.toArray m = true)
    (hsize : a.tmps.size = aF.tmps.size) (hdef : a.defers = aF.defers) (hsame : ∀ t, (∀ i, i < m → dstOf l.toArray i ≠ some t) → a.tmps[t]? = aF.tmps[t]?)
    (hl : P68 P l.toArray (fun _ => false) S aF m 0 l) (hS : S w.drew) (oL : Oper) (hoL : l[m]? = some oL) (hgd : oL.guard = none) (hdst : oL.dst = none) (hnd : ∀ c, oL.op ≠ .defer c) (w2 : World)
    (hrun : (execOp aF.eval oL).run P w.drew = .ok .skip w2) (hQ : Q .normal aF w2) : (Code.region id l.toArray true).wpIn F n P Q a w := by
  refine wpIn_region_fin m aF S hF hm hck hsize hdef hsame (fun i o hi ho => ?_) hS (fun K hK => ?_)
  · have := P68_get l 0 hl i o (by simpa using ho) (by omega)
    simpa using this
  · unfold wpOpIn
    have : l.toArray[m]? = some oL := by simpa using hoL
    simp only [this]
    rw [if_pos (by simp [Region.wanted, hgd])]
    refine ⟨fun f _ => hF f, ?_⟩
    rw [Oper.semAt_eq _ _ _ hnd, hrun]
    show K (aF.put oL.dst undef) w2
    rw [hdst]
    exact hK _ _ hQ
/-- what a world that has been grown from another, but for a map, holds -/
theorem rowC_grown {W W' : World} {b g : Nat} {L : ML} {A : Array Value} (h : W.grownBy W' (some b)) (hb : W.heap[b]? = some (mapObj L)) (hr : rowC W g = A) (hA : 0 < A.size) : rowC W' g = A := by
  have hlt : g < W.heap.size := rowC_lt (by rw [hr]; exact hA)
  have hne : g ≠ b := by
    rintro rfl
    unfold rowC at hr
    rw [hb] at hr
    simp [mapObj, ocells] at hr
    rw [hr] at hA; simp at hA
  rw [← hr]
  unfold rowC
  rw [h.block g hlt (by simpa using hne)]
theorem cell_grown {W W' : World} {b : Nat} {L : ML} {p : Addr} {v : Value} (h : W.grownBy W' (some b)) (hb : W.heap[b]? = some (mapObj L)) (hc : W.cell? p = some v) : W'.cell? p = some v := by
  refine h.cell hc ?_
  intro e
  cases e
  unfold World.cell? at hc
  rw [hb] at hc
  simp [mapObj] at hc
theorem grown_below {W W' W'' : World} {b : Nat} (h : W.grownBy W' (some b)) (hb : Below W'.heap.size W' W'') : W.grownBy W'' (some b) :=
  ⟨hb.os.trans h.os, hb.tape.trans h.tape, hb.output.trans h.output, Nat.le_trans h.size hb.size, fun k hk hne => (hb.block k (Nat.lt_of_lt_of_le hk h.size)).trans (h.block k hk hne)⟩
theorem grown_put {W W' : World} {b : Nat} (h : W.grownBy W' (some b)) (o : Obj) : W.grownBy (W'.putObj b o) (some b) :=
  ⟨h.os, h.tape, h.output, by simpa [World.putObj] using h.size, fun k hk hne => (World.putObj_heap_other (by simpa using hne)).trans (h.block k hk hne)⟩
end Go.Proofs.YteilaajjpjhijaaDoor
