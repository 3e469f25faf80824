/- Walk of the law Alternatives, with the walk of a drawn region by what holds at each step. -/
import Derived.Test.YteilaajjpjhijaaDoorL7
import Derived.Great.Frames
namespace Go.Proofs.YteilaajjpjhijaaDoor
open Go.RowKit PSpec
section
variable {P : Program} {ops : Array Oper} {Q : Exit → Act → World → Prop} {S : World → Prop}
theorem count_listed {listed : Array Bool} {i : Nat} (h : listed.getD i true = false) : (listed.setIfInBounds i true).count false + 1 = listed.count false := by
  have hi : i < listed.size := by
    rcases Nat.lt_or_ge i listed.size with h' | h'
    · exact h'
    · simp [Array.getElem?_eq_none h'] at h
  have he : listed[i] = false := by simpa [hi] using h
  have hp : 0 < listed.count false := Array.count_pos_iff.2 (by rw [← he]; exact Array.getElem_mem hi)
  rw [Array.setIfInBounds, dif_pos hi, Array.count_set, he]
  simp
  omega
theorem ready_unlisted {listed : Array Bool} {i : Nat} (h : i ∈ Region.ready .any ops listed) : 0 < listed.count false := by
  have := count_listed (mem_ready.1 h).1
  omega
theorem wpAnyR_inv {L : Nat} {J : Array Bool → Act → World → Prop}
    (step : ∀ listed a w, J listed a w → ∀ i ∈ Region.ready .any ops listed, wpOp P ops Q i (fun a' w' => (i = L ∨ S w') ∧ J (listed.setIfInBounds i true) a' w') a w)
    (done : ∀ listed a w, J listed a w → Region.ready .any ops listed = [] → Q .normal a w) :
    ∀ (fuel : Nat) (listed : Array Bool) (a : Act) (w : World), listed.count false ≤ fuel → J listed a w → wpAnyR P ops Q S L fuel listed a w
  | 0, listed, a, w, hc, hJ => by
    have hr : Region.ready .any ops listed = [] := by
      cases h : Region.ready .any ops listed with
      | nil => rfl
      | cons i r => have := ready_unlisted (ops := ops) (listed := listed) (i := i) (by rw [h]; simp); omega
    exact ⟨hr, done _ _ _ hJ hr⟩
  | fuel + 1, listed, a, w, hc, hJ => by
    refine ⟨fun h => done _ _ _ hJ h, fun i hi => wpOp_mono (fun a' w' h' => ⟨h'.1, ?_⟩) (step listed a w hJ i hi)⟩
    have := count_listed (mem_ready.1 hi).1
    exact wpAnyR_inv step done fuel _ _ _ (by omega) h'.2
/-- what is ready waits for nothing that is not listed -/
theorem ready_waits {listed : Array Bool} {i j : Nat} (h : i ∈ Region.ready .any ops listed) (hw : waitB ops i j = true) : listed.getD j false = true := by
  obtain ⟨_, o, ho, hall⟩ := mem_ready.1 h
  exact wait_of ho hall hw
theorem wpOp_value {i : Nat} {a : Act} {w : World} {K : Act → World → Prop} (o : Oper) (hi : ops[i]? = some o) (hgd : o.guard = none) (v : Value) (w' : World)
    (hr : (execOp a.eval o).run P w = .ok (.value v) w') (h : K (a.put o.dst v) w') : wpOp P ops Q i K a w := by
  unfold wpOp
  simp only [hi]
  rw [if_pos (by simp [Region.wanted, hgd])]
  refine .inl ?_
  unfold Oper.wp
  rw [hr]
  exact h
theorem wpOp_skp {i : Nat} {a : Act} {w : World} {K : Act → World → Prop} (o : Oper) (hi : ops[i]? = some o) (hgd : o.guard = none) (w' : World)
    (hr : (execOp a.eval o).run P w = .ok .skip w') (h : K (a.put o.dst undef) w') : wpOp P ops Q i K a w := by
  unfold wpOp
  simp only [hi]
  rw [if_pos (by simp [Region.wanted, hgd])]
  refine .inl ?_
  unfold Oper.wp
  rw [hr]
  exact h
theorem put_over (a : Act) (d : Nat) (v u : Value) : (a.put (some d) v).put (some d) u = a.put (some d) u := by
  simp [Act.put]
end
/-- the six slots that the region fills -/
def mk24 (a : Act) (x0 x3 x5 x6 x7 x8 : Value) : Act := (((((a.put (some 106) x0).put (some 109) x3).put (some 111) x5).put (some 112) x6).put (some 113) x7).put (some 22) x8
section
variable (a : Act) (x0 x3 x5 x6 x7 x8 v : Value)
theorem mk24_8 : (mk24 a x0 x3 x5 x6 x7 x8).put (some 22) v = mk24 a x0 x3 x5 x6 x7 v := by unfold mk24; rw [put_over]
theorem mk24_7 : (mk24 a x0 x3 x5 x6 x7 x8).put (some 113) v = mk24 a x0 x3 x5 x6 v x8 := by
  unfold mk24; rw [Act.put_comm (x := some 22) (y := some 113) _ x8 v (by simp), put_over]
theorem mk24_6 : (mk24 a x0 x3 x5 x6 x7 x8).put (some 112) v = mk24 a x0 x3 x5 v x7 x8 := by
  unfold mk24; rw [Act.put_comm (x := some 22) (y := some 112) _ x8 v (by simp), Act.put_comm (x := some 113) (y := some 112) _ x7 v (by simp), put_over]
theorem mk24_5 : (mk24 a x0 x3 x5 x6 x7 x8).put (some 111) v = mk24 a x0 x3 v x6 x7 x8 := by
  unfold mk24; rw [Act.put_comm (x := some 22) (y := some 111) _ x8 v (by simp), Act.put_comm (x := some 113) (y := some 111) _ x7 v (by simp), Act.put_comm (x := some 112) (y := some 111) _ x6 v (by simp), put_over]
theorem mk24_3 : (mk24 a x0 x3 x5 x6 x7 x8).put (some 109) v = mk24 a x0 v x5 x6 x7 x8 := by
  unfold mk24; rw [Act.put_comm (x := some 22) (y := some 109) _ x8 v (by simp), Act.put_comm (x := some 113) (y := some 109) _ x7 v (by simp), Act.put_comm (x := some 112) (y := some 109) _ x6 v (by simp), Act.put_comm (x := some 111) (y := some 109) _ x5 v (by simp), put_over]
theorem mk24_0 : (mk24 a x0 x3 x5 x6 x7 x8).put (some 106) v = mk24 a v x3 x5 x6 x7 x8 := by
  unfold mk24; rw [Act.put_comm (x := some 22) (y := some 106) _ x8 v (by simp), Act.put_comm (x := some 113) (y := some 106) _ x7 v (by simp), Act.put_comm (x := some 112) (y := some 106) _ x6 v (by simp), Act.put_comm (x := some 111) (y := some 106) _ x5 v (by simp), Act.put_comm (x := some 109) (y := some 106) _ x3 v (by simp), put_over]
variable {a} (hs : 160 < a.tmps.size)
include hs
theorem mk24_e0 : (mk24 a x0 x3 x5 x6 x7 x8).eval (.tmp 106) = x0 := by
  unfold mk24; simp only [Act.eval_put_ne _ _ _ _ (show 22 ≠ 106 by decide), Act.eval_put_ne _ _ _ _ (show 113 ≠ 106 by decide), Act.eval_put_ne _ _ _ _ (show 112 ≠ 106 by decide), Act.eval_put_ne _ _ _ _ (show 111 ≠ 106 by decide), Act.eval_put_ne _ _ _ _ (show 109 ≠ 106 by decide)]
  exact Act.eval_put_same _ _ _ (by omega)
theorem mk24_e3 : (mk24 a x0 x3 x5 x6 x7 x8).eval (.tmp 109) = x3 := by
  unfold mk24; simp only [Act.eval_put_ne _ _ _ _ (show 22 ≠ 109 by decide), Act.eval_put_ne _ _ _ _ (show 113 ≠ 109 by decide), Act.eval_put_ne _ _ _ _ (show 112 ≠ 109 by decide), Act.eval_put_ne _ _ _ _ (show 111 ≠ 109 by decide)]
  exact Act.eval_put_same _ _ _ (by simp only [Act.size_put]; omega)
theorem mk24_e5 : (mk24 a x0 x3 x5 x6 x7 x8).eval (.tmp 111) = x5 := by
  unfold mk24; simp only [Act.eval_put_ne _ _ _ _ (show 22 ≠ 111 by decide), Act.eval_put_ne _ _ _ _ (show 113 ≠ 111 by decide), Act.eval_put_ne _ _ _ _ (show 112 ≠ 111 by decide)]
  exact Act.eval_put_same _ _ _ (by simp only [Act.size_put]; omega)
theorem mk24_e6 : (mk24 a x0 x3 x5 x6 x7 x8).eval (.tmp 112) = x6 := by
  unfold mk24; simp only [Act.eval_put_ne _ _ _ _ (show 22 ≠ 112 by decide), Act.eval_put_ne _ _ _ _ (show 113 ≠ 112 by decide)]
  exact Act.eval_put_same _ _ _ (by simp only [Act.size_put]; omega)
theorem mk24_e7 : (mk24 a x0 x3 x5 x6 x7 x8).eval (.tmp 113) = x7 := by
  unfold mk24; simp only [Act.eval_put_ne _ _ _ _ (show 22 ≠ 113 by decide)]
  exact Act.eval_put_same _ _ _ (by simp only [Act.size_put]; omega)
theorem mk24_e8 : (mk24 a x0 x3 x5 x6 x7 x8).eval (.tmp 22) = x8 := by
  unfold mk24
  exact Act.eval_put_same _ _ _ (by simp only [Act.size_put]; omega)
omit hs in
theorem mk24_ne (j : Nat) (h : j = 108 ∨ j = 110) : (mk24 a x0 x3 x5 x6 x7 x8).eval (.tmp j) = a.eval (.tmp j) := by
  unfold mk24
  rcases h with rfl | rfl
  · simp only [Act.eval_put_ne _ _ _ _ (show 22 ≠ 108 by decide), Act.eval_put_ne _ _ _ _ (show 113 ≠ 108 by decide), Act.eval_put_ne _ _ _ _ (show 112 ≠ 108 by decide), Act.eval_put_ne _ _ _ _ (show 111 ≠ 108 by decide), Act.eval_put_ne _ _ _ _ (show 109 ≠ 108 by decide), Act.eval_put_ne _ _ _ _ (show 106 ≠ 108 by decide)]
  · simp only [Act.eval_put_ne _ _ _ _ (show 22 ≠ 110 by decide), Act.eval_put_ne _ _ _ _ (show 113 ≠ 110 by decide), Act.eval_put_ne _ _ _ _ (show 112 ≠ 110 by decide), Act.eval_put_ne _ _ _ _ (show 111 ≠ 110 by decide), Act.eval_put_ne _ _ _ _ (show 109 ≠ 110 by decide), Act.eval_put_ne _ _ _ _ (show 106 ≠ 110 by decide)]
end
theorem RVs.below {w w' : World} {b o : Nat} {rs : List RV} (h : RVs w b o rs) (hb : Below w.heap.size w w') : RVs w' b o rs := fun i q hq => by
  obtain ⟨c0, c1, c2⟩ := h i q hq
  exact ⟨keeps_of_below hb _ _ c0, keeps_of_below hb _ _ c1, c2.below hb⟩
/-- append of rules onto a row of the call's own, as a run -/
theorem run_appR (w : World) (ty : TypeId) (base : Nat) (v : Value) (n : Nat) (xs : List Value) (hown : w.ownsRow base 55 2 v n xs)
    (rs : List RV) (pa : Option Addr) (pc pb po : Nat) (hrv : RVs w pb po rs) (hp0 : 0 < rs.length → pa = some ⟨pb, po, none⟩) (hn : n + rs.length ≤ 1000000) (hbase : base ≤ w.heap.size) :
    ∃ v' w', (Builtin.append_ #[22, 22] ty #[v, .slice pa rs.length pc]).run Tryd.prog w = .ok v' w' ∧ w'.ownsRow base 55 2 v' (n + rs.length) (xs ++ rvCells rs) ∧ w.grownBy w' v.ownBlock ∧ (v'.ownBlock = v.ownBlock ∨ v'.ownBlock = some w.heap.size) := by
  obtain ⟨i0, HI⟩ := part55
  cases pa with
  | none =>
    obtain rfl : rs = [] := List.length_eq_zero_iff.1 (by
      rcases Nat.eq_zero_or_pos rs.length with h | h
      · exact h
      · have := hp0 h; simp at this)
    have hr : (Builtin.append_ #[22, 22] ty #[v, .slice none 0 pc]).run Tryd.prog w = .ok v w := by
      rcases hown.2 with ⟨rfl, _⟩ | ⟨g, c, cur, rfl, _, _, hnc, _⟩
      · simp [Builtin.append_, run_underlying Tryd.underlying22, sizeOf, typeInfo, HI.out.1, Builtin.lenOf, Builtin.firstCells]
      · simp [Builtin.append_, run_underlying Tryd.underlying22, sizeOf, typeInfo, HI.out.1, Builtin.lenOf, Builtin.firstCells, hnc, storeCells]
    exact ⟨v, w, hr, by simpa [rvCells] using hown, grown_self w _, .inl rfl⟩
  | some ad =>
    obtain ⟨v', w', h1, h2, h3, _, h5⟩ := run_append_own_at (P := Tryd.prog) w base 22 ty 55 i0 (.agg #[.int .i64 0, .slice none 0 0]) 2 32 Tryd.underlying22 HI.out.1 HI.out.2.1 HI.out.2.2.1 HI.out.2.2.2 rfl (by decide) v n xs hown ad rs.length pc (rvCells rs) (rvCells_len rs)
      (fun j u hu => by
        have hj : j < rs.length * 2 := by rw [← rvCells_len]; exact (List.getElem?_eq_some_iff.1 hu).1
        obtain rfl : ad = ⟨pb, po, none⟩ := by simpa using hp0 (by omega)
        rw [Addr.add_mid]
        obtain ⟨q, hq⟩ := get_some rs (j / 2) (by omega)
        obtain ⟨g0, g1⟩ := rvCells_get rs _ q hq
        obtain ⟨c0, c1, _⟩ := hrv _ q hq
        rcases Nat.mod_two_eq_zero_or_one j with h | h
        · rw [show 2 * (j / 2) = j by omega] at g0
          rw [show po + j / 2 * 2 = po + j by omega] at c0
          rw [hu] at g0
          rw [c0, g0]
        · rw [show 2 * (j / 2) + 1 = j by omega] at g1
          rw [show po + j / 2 * 2 + 1 = po + j by omega] at c1
          rw [hu] at g1
          rw [c1, g1])
      (fun u hu => by
        simp only [rvCells, List.mem_flatMap] at hu
        obtain ⟨q, hq, hu⟩ := hu
        obtain ⟨k, hk⟩ := List.getElem?_of_mem hq
        obtain ⟨_, _, hi⟩ := hrv k q hk
        obtain ⟨ia, ic, e, _⟩ := hi
        rcases List.mem_cons.1 hu with rfl | hu
        · rfl
        · obtain rfl : u = q.2 := by simpa using hu
          rw [e]; rfl)
      (by unfold maxLen; omega) (by omega) hbase
    exact ⟨v', w', h1, h2, h3, h5⟩
section
variable {P : Program} {ops : Array Oper}
/-- every operation waits for earlier ones alone -/
def sortedB (ops : Array Oper) : Bool := (List.range ops.size).all fun i => ((ops[i]?).map fun o => o.after.all fun e => !Region.binds .any e || decide (e.on < i)).getD true
theorem ready_nil {listed : Array Bool} (hs : sortedB ops = true) (hz : listed.size = ops.size) (h : Region.ready .any ops listed = []) : ∀ i, i < ops.size → listed.getD i false = true := by
  intro i
  induction i using Nat.strongRecOn with
  | _ i ih =>
    intro hi
    cases hl : listed.getD i false with
    | true => rfl
    | false =>
      exfalso
      have ho := Array.getElem?_eq_getElem hi
      have h1 := List.all_eq_true.1 hs i (List.mem_range.2 hi)
      rw [ho] at h1
      simp only [Option.map_some, Option.getD_some, Array.all_eq_true_iff_forall_mem, Bool.or_eq_true, Bool.not_eq_true', decide_eq_true_eq] at h1
      have hm : i ∈ Region.ready .any ops listed := by
        refine mem_ready.2 ⟨?_, _, ho, fun e he hb => ?_⟩
        · simpa [show i < listed.size by omega] using hl
        · have := (h1 e he).resolve_left (by simp [hb])
          exact ih _ this (by omega)
      rw [h] at hm
      cases hm
theorem listed_set {listed : Array Bool} {i k : Nat} (hi : i < listed.size) : (listed.setIfInBounds i true).getD k false = (decide (i = k) || listed.getD k false) := by
  by_cases h : i = k
  · subst h; simp [hi]
  · rw [getD_set_ne _ h]; simp [h]
end
structure G24 (wr : World) (rs : List RV) (r : RV) (lb : Nat → Bool) (x0 x3 x5 x6 x7 x8 : Value) (w : World) : Prop where
  low : Below wr.heap.size wr w
  f0 : lb 0 = true → lb 3 = false → w.ownsRow wr.heap.size 55 2 x0 0 []
  f3 : lb 3 = true → lb 6 = false → w.ownsRow wr.heap.size 55 2 x3 rs.length (rvCells rs)
  f5 : lb 5 = true → lb 6 = false → ∃ b, x5 = .slice (some ⟨b, 0, none⟩) 1 1 ∧ w.heap[b]? = some (.cells #[.int .i64 r.1.1, r.2] 55 (0, 0)) ∧ wr.heap.size ≤ b ∧ (lb 0 = true → lb 3 = false → x0.ownBlock ≠ some b) ∧ (lb 3 = true → x3.ownBlock ≠ some b)
  f6 : lb 6 = true → w.ownsRow wr.heap.size 55 2 x6 (rs.length + 1) (rvCells (rs ++ [r]))
  f7 : lb 7 = true → x7 = .agg #[x6]
  f8 : lb 8 = true → ∃ b, x8 = .pointer (some ⟨b, 0, none⟩) ∧ wr.heap.size ≤ b ∧ w.heap[b]? = some (.cells #[if lb 9 then x6 else .slice none 0 0] 24 (0, 0))
theorem run_empty22 (w : World) : (Instr.buildSlice 22 0 #[]).run Tryd.prog w = .ok (.slice (some ⟨w.heap.size, 0, none⟩) 0 0) (w.alloc (.cells #[] 55)) := by
  go_simp
theorem run_one22 (w : World) (z : Int) (v : Value) (n c : Nat) (p : Option Addr) (hv : v = .slice p n c) : (Instr.buildSlice 22 1 #[(0, .agg #[.int .i64 z, v])]).run Tryd.prog w = .ok (.slice (some ⟨w.heap.size, 0, none⟩) 1 1) (w.alloc (.cells #[.int .i64 z, v] 55)) := by
  subst hv
  go_simp
theorem run_alloc24 (w : World) : (Instr.alloc 24 true (.tuple #[])).run Tryd.prog w = .ok (.pointer (some ⟨w.heap.size, 0, none⟩)) (w.alloc (.cells #[.slice none 0 0] 24)) := by
  go_simp
theorem run_build24 (w : World) (v : Value) (n c : Nat) (p : Option Addr) (hv : v = .slice p n c) : (Instr.build 24 #[(0, v)]).run Tryd.prog w = .ok (.agg #[v]) w := by
  subst hv
  go_simp
theorem run_store24 (w : World) (b : Nat) (u v : Value) (n c : Nat) (p : Option Addr) (hv : v = .slice p n c) (hb : w.heap[b]? = some (.cells #[u] 24 (0, 0))) : (Instr.storeAt 24 (.pointer (some ⟨b, 0, none⟩)) (.agg #[v])).run Tryd.prog w = .ok () (w.setCell ⟨b, 0, none⟩ v) := by
  subst hv
  have hc : w.cell? ⟨b, 0, none⟩ = some u := (cell_of_row w b 0 _ _ _ hb).trans rfl
  have hf : w.frozen? ⟨b, 0, none⟩ = false := frozen_of_row w b 0 _ _ hb
  go_simp
theorem put_none (a : Act) (v : Value) : a.put none v = a := rfl
theorem ownBlock_lt {w : World} {B e z n : Nat} {v : Value} {xs : List Value} (h : w.ownsRow B e z v n xs) : v.ownBlock ≠ some w.heap.size := fun hv => by
  have := (h.lt _ hv).2; omega
theorem block_apart {w : World} {B n : Nat} {v : Value} {xs : List Value} {b : Nat} {c : Array Value} (h : w.ownsRow B 55 2 v n xs) (hb : w.heap[b]? = some (.cells c 24 (0, 0))) : v.ownBlock ≠ some b := fun hv => by
  rcases h.2 with ⟨rfl, _⟩ | ⟨g, cap, cur, rfl, _, hg, _⟩
  · simp [Value.ownBlock] at hv
  · obtain rfl : g = b := by simpa [Value.ownBlock] using hv
    rw [hg] at hb
    simp at hb

def upB (i : Nat) (lb : Nat → Bool) : Nat → Bool := fun k => decide (i = k) || lb k
structure Cl24 (lb : Nat → Bool) : Prop where
  c3 : lb 3 = true → lb 0 = true
  c6 : lb 6 = true → lb 3 = true ∧ lb 5 = true
  c7 : lb 7 = true → lb 6 = true
  c9 : lb 9 = true → lb 7 = true ∧ lb 8 = true
section
variable {wr w : World} {rs : List RV} {r : RV} {lb : Nat → Bool} {x0 x3 x5 x6 x7 x8 : Value}
theorem f_of {a b : Bool} (h : a = true → b = true) (hb : b = false) : a = false := by
  cases a <;> simp_all
theorem Cl24.up (h : Cl24 lb) {i : Nat} (h3 : i = 3 → lb 0 = true) (h6 : i = 6 → lb 3 = true ∧ lb 5 = true) (h7 : i = 7 → lb 6 = true) (h9 : i = 9 → lb 7 = true ∧ lb 8 = true) : Cl24 (upB i lb) := by
  obtain ⟨a, b, c, d⟩ := h
  refine ⟨?_, ?_, ?_, ?_⟩ <;> simp only [Go.Proofs.YteilaajjpjhijaaDoor.upB, Bool.or_eq_true, decide_eq_true_eq]
  · rintro (e | e)
    · exact .inr (h3 e)
    · exact .inr (a e)
  · rintro (e | e)
    · exact ⟨.inr (h6 e).1, .inr (h6 e).2⟩
    · exact ⟨.inr (b e).1, .inr (b e).2⟩
  · rintro (e | e)
    · exact .inr (h7 e)
    · exact .inr (c e)
  · rintro (e | e)
    · exact ⟨.inr (h9 e).1, .inr (h9 e).2⟩
    · exact ⟨.inr (d e).1, .inr (d e).2⟩
theorem G24.s0 (G : G24 wr rs r lb x0 x3 x5 x6 x7 x8 w) (C : Cl24 lb) (hu : lb 0 = false) :
    G24 wr rs r (upB 0 lb) (.slice (some ⟨w.heap.size, 0, none⟩) 0 0) x3 x5 x6 x7 x8 (w.alloc (.cells #[] 55)) := by
  have l3 := f_of C.c3 hu
  have l6 := f_of (fun h => (C.c6 h).1) l3
  have l7 := f_of C.c7 l6
  have l9 := f_of (fun h => (C.c9 h).1) l7
  have hB := G.low.size
  refine ⟨G.low.alloc hB _, ?_, ?_, ?_, ?_, ?_, ?_⟩
  · intro _ _
    exact ⟨rfl, .inr ⟨_, 0, #[], rfl, hB, World.alloc_heap_new _ _, Nat.le_refl _, by decide, rfl, rfl⟩⟩
  · intro h _; simp [upB, l3] at h
  · intro h _
    obtain ⟨b, e, hb, hlt, _, n3⟩ := G.f5 (by simpa [upB] using h) l6
    have hbl := heap_lt hb
    refine ⟨b, e, (((Below.refl _ _).alloc (Nat.le_refl _) _).block b hbl).trans hb, hlt, fun _ _ he => ?_, fun h => by simp [upB, l3] at h⟩
    obtain rfl : w.heap.size = b := by simpa [Value.ownBlock] using he
    exact absurd hbl (Nat.lt_irrefl _)
  · intro h; simp [upB, l6] at h
  · intro h; simp [upB, l7] at h
  · intro h
    obtain ⟨b, e, hlt, hb⟩ := G.f8 (by simpa [upB] using h)
    have hbl := heap_lt hb
    refine ⟨b, e, hlt, (((Below.refl _ _).alloc (Nat.le_refl _) _).block b hbl).trans ?_⟩
    simpa [upB, l9] using hb
theorem G24.s3 (G : G24 wr rs r lb x0 x3 x5 x6 x7 x8 w) (C : Cl24 lb) (hu : lb 3 = false) (h0 : lb 0 = true) {v : Value} {w' : World}
    (ho : w'.ownsRow wr.heap.size 55 2 v (0 + rs.length) ([] ++ rvCells rs)) (hg : w.grownBy w' x0.ownBlock) (hv : v.ownBlock = x0.ownBlock ∨ v.ownBlock = some w.heap.size) :
    G24 wr rs r (upB 3 lb) x0 v x5 x6 x7 x8 w' := by
  have l6 := f_of (fun h => (C.c6 h).1) hu
  have l7 := f_of C.c7 l6
  have l9 := f_of (fun h => (C.c9 h).1) l7
  have hB := G.low.size
  have o0 := G.f0 h0 hu
  refine ⟨G.low.grown hg hB fun k hk => (o0.lt k hk).1, ?_, ?_, ?_, ?_, ?_, ?_⟩
  · intro _ h; simp [upB] at h
  · intro _ _; simpa using ho
  · intro h _
    obtain ⟨b, e, hb, hlt, n0, _⟩ := G.f5 (by simpa [upB] using h) l6
    have hbl := heap_lt hb
    refine ⟨b, e, (hg.block b hbl fun e => n0 h0 hu e.symm).trans hb, hlt, fun _ h => by simp [upB] at h, fun _ he => ?_⟩
    rcases hv with hv | hv
    · exact n0 h0 hu (hv ▸ he)
    · rw [hv] at he
      obtain rfl : w.heap.size = b := by simpa using he
      exact absurd hbl (Nat.lt_irrefl _)
  · intro h; simp [upB, l6] at h
  · intro h; simp [upB, l7] at h
  · intro h
    obtain ⟨b, e, hlt, hb⟩ := G.f8 (by simpa [upB] using h)
    have hbl := heap_lt hb
    refine ⟨b, e, hlt, (hg.block b hbl fun e => block_apart o0 hb e.symm).trans ?_⟩
    simpa [upB, l9] using hb
theorem G24.s5 (G : G24 wr rs r lb x0 x3 x5 x6 x7 x8 w) (C : Cl24 lb) (hu : lb 5 = false) :
    G24 wr rs r (upB 5 lb) x0 x3 (.slice (some ⟨w.heap.size, 0, none⟩) 1 1) x6 x7 x8 (w.alloc (.cells #[.int .i64 r.1.1, r.2] 55)) := by
  have l6 := f_of (fun h => (C.c6 h).2) hu
  have l7 := f_of C.c7 l6
  have l9 := f_of (fun h => (C.c9 h).1) l7
  have hB := G.low.size
  have ba : Below w.heap.size w (w.alloc (.cells #[.int .i64 r.1.1, r.2] 55)) := (Below.refl _ _).alloc (Nat.le_refl _) _
  refine ⟨G.low.alloc hB _, ?_, ?_, ?_, ?_, ?_, ?_⟩
  · intro h h'; exact own_bel (G.f0 (by simpa [upB] using h) (by simpa [upB] using h')) ba
  · intro h h'; exact own_bel (G.f3 (by simpa [upB] using h) (by simpa [upB] using h')) ba
  · intro _ _
    exact ⟨_, rfl, World.alloc_heap_new _ _, hB, fun h h' => ownBlock_lt (G.f0 (by simpa [upB] using h) (by simpa [upB] using h')), fun h => ownBlock_lt (G.f3 (by simpa [upB] using h) l6)⟩
  · intro h; simp [upB, l6] at h
  · intro h; simp [upB, l7] at h
  · intro h
    obtain ⟨b, e, hlt, hb⟩ := G.f8 (by simpa [upB] using h)
    refine ⟨b, e, hlt, (ba.block b (heap_lt hb)).trans ?_⟩
    simpa [upB, l9] using hb
theorem G24.s6 (G : G24 wr rs r lb x0 x3 x5 x6 x7 x8 w) (C : Cl24 lb) (hu : lb 6 = false) (h3 : lb 3 = true) {v : Value} {w' : World}
    (ho : w'.ownsRow wr.heap.size 55 2 v (rs.length + 1) (rvCells (rs ++ [r]))) (hg : w.grownBy w' x3.ownBlock) :
    G24 wr rs r (upB 6 lb) x0 x3 x5 v x7 x8 w' := by
  have l7 := f_of C.c7 hu
  have l9 := f_of (fun h => (C.c9 h).1) l7
  have hB := G.low.size
  have o3 := G.f3 h3 hu
  refine ⟨G.low.grown hg hB fun k hk => (o3.lt k hk).1, ?_, ?_, ?_, ?_, ?_, ?_⟩
  · intro _ h; simp [upB, h3] at h
  · intro _ h; simp [upB] at h
  · intro _ h; simp [upB] at h
  · intro _; exact ho
  · intro h; simp [upB, l7] at h
  · intro h
    obtain ⟨b, e, hlt, hb⟩ := G.f8 (by simpa [upB] using h)
    refine ⟨b, e, hlt, (hg.block b (heap_lt hb) fun e => block_apart o3 hb e.symm).trans ?_⟩
    simpa [upB, l9] using hb
theorem G24.s7 (G : G24 wr rs r lb x0 x3 x5 x6 x7 x8 w) :
    G24 wr rs r (upB 7 lb) x0 x3 x5 x6 (.agg #[x6]) x8 w := by
  refine ⟨G.low, ?_, ?_, ?_, ?_, fun _ => rfl, ?_⟩
  · intro h h'; exact G.f0 (by simpa [upB] using h) (by simpa [upB] using h')
  · intro h h'; exact G.f3 (by simpa [upB] using h) (by simpa [upB] using h')
  · intro h h'
    obtain ⟨b, e, hb, hlt, n0, n3⟩ := G.f5 (by simpa [upB] using h) (by simpa [upB] using h')
    exact ⟨b, e, hb, hlt, fun h h' => n0 (by simpa [upB] using h) (by simpa [upB] using h'), fun h => n3 (by simpa [upB] using h)⟩
  · intro h; exact G.f6 (by simpa [upB] using h)
  · intro h
    obtain ⟨b, e, hlt, hb⟩ := G.f8 (by simpa [upB] using h)
    exact ⟨b, e, hlt, by simpa [upB] using hb⟩
theorem G24.s8 (G : G24 wr rs r lb x0 x3 x5 x6 x7 x8 w) (C : Cl24 lb) (hu : lb 8 = false) :
    G24 wr rs r (upB 8 lb) x0 x3 x5 x6 x7 (.pointer (some ⟨w.heap.size, 0, none⟩)) (w.alloc (.cells #[.slice none 0 0] 24)) := by
  have l9 := f_of (fun h => (C.c9 h).2) hu
  have hB := G.low.size
  have ba : Below w.heap.size w (w.alloc (.cells #[.slice none 0 0] 24)) := (Below.refl _ _).alloc (Nat.le_refl _) _
  refine ⟨G.low.alloc hB _, ?_, ?_, ?_, ?_, ?_, ?_⟩
  · intro h h'; exact own_bel (G.f0 (by simpa [upB] using h) (by simpa [upB] using h')) ba
  · intro h h'; exact own_bel (G.f3 (by simpa [upB] using h) (by simpa [upB] using h')) ba
  · intro h h'
    obtain ⟨b, e, hb, hlt, n0, n3⟩ := G.f5 (by simpa [upB] using h) (by simpa [upB] using h')
    exact ⟨b, e, (ba.block b (heap_lt hb)).trans hb, hlt, fun h h' => n0 (by simpa [upB] using h) (by simpa [upB] using h'), fun h => n3 (by simpa [upB] using h)⟩
  · intro h; exact own_bel (G.f6 (by simpa [upB] using h)) ba
  · intro h; exact G.f7 (by simpa [upB] using h)
  · intro _
    refine ⟨_, rfl, hB, ?_⟩
    simp only [upB, l9]
    exact World.alloc_heap_new _ _
theorem G24.s9 (G : G24 wr rs r lb x0 x3 x5 x6 x7 x8 w) (C : Cl24 lb) (h7 : lb 7 = true) {b : Nat} (he : x8 = .pointer (some ⟨b, 0, none⟩)) (hlt : wr.heap.size ≤ b) (hb : w.heap[b]? = some (.cells #[.slice none 0 0] 24 (0, 0))) :
    G24 wr rs r (upB 9 lb) x0 x3 x5 x6 x7 x8 (w.setCell ⟨b, 0, none⟩ x6) := by
  have l6 := C.c7 h7
  obtain ⟨l3, _⟩ := C.c6 l6
  have hset : w.grownBy (w.setCell ⟨b, 0, none⟩ x6) (some b) := grown_set (grownBel (Below.refl _ _) _) _ _
  have o6 := G.f6 l6
  refine ⟨G.low.setCell (p := ⟨b, 0, none⟩) hlt _, ?_, ?_, ?_, ?_, ?_, ?_⟩
  · intro _ h; simp [upB, l3] at h
  · intro _ h; simp [upB, l6] at h
  · intro _ h; simp [upB, l6] at h
  · intro _; exact grown_kept o6 hset fun j hj e => block_apart o6 hb (hj.trans e)
  · intro h; exact G.f7 h7
  · intro _
    refine ⟨b, he, hlt, ?_⟩
    simp only [upB]
    exact one_setCell hb
end
set_option maxHeartbeats 1000000 in
/-- the region of ten operations that makes the longer protocol, whatever its order -/
theorem region24 {ops : Array Oper} {Q : Exit → Act → World → Prop} {S : World → Prop} (o0 o3 o5 o6 o7 o8 o9 : Oper)
    (h0 : ops[0]? = some o0) (h3 : ops[3]? = some o3) (h5 : ops[5]? = some o5) (h6 : ops[6]? = some o6) (h7 : ops[7]? = some o7) (h8 : ops[8]? = some o8) (h9 : ops[9]? = some o9) (hsz : ops.size = 10)
    (e0 : o0.op = .buildSlice 22 0 #[]) (e3 : o3.op = .call { callee := .builtin .append, args := #[.tmp 106, .tmp 108], argTypes := #[22, 22] }) (e5 : o5.op = .buildSlice 22 1 #[(0, .tmp 110)])
    (e6 : o6.op = .call { callee := .builtin .append, args := #[.tmp 109, .tmp 111], argTypes := #[22, 22] }) (e7 : o7.op = .build 24 #[(0, .tmp 112)]) (e8 : o8.op = .alloc 24) (e9 : o9.op = .store 24 (.tmp 22) (.tmp 113))
    (d0 : o0.dst = some 106) (d3 : o3.dst = some 109) (d5 : o5.dst = some 111) (d6 : o6.dst = some 112) (d7 : o7.dst = some 113) (d8 : o8.dst = some 22) (d9 : o9.dst = none)
    (g0 : o0.guard = none) (g3 : o3.guard = none) (g5 : o5.guard = none) (g6 : o6.guard = none) (g7 : o7.guard = none) (g8 : o8.guard = none) (g9 : o9.guard = none)
    (hso : sortedB ops = true) (hw : (waitB ops 3 0 && waitB ops 6 3 && waitB ops 6 5 && waitB ops 7 6 && waitB ops 9 7 && waitB ops 9 8 && waitB ops 9 6) = true)
    (a : Act) (hs : 160 < a.tmps.size) (wr : World) (rs : List RV) (r : RV) (pa : Option Addr) (pc pb po : Nat) (hrv : RVs wr pb po rs) (hp0 : 0 < rs.length → pa = some ⟨pb, po, none⟩) (hn : rs.length ≤ 1000)
    (q108 : a.eval (.tmp 108) = .slice pa rs.length pc) (q110 : a.eval (.tmp 110) = .agg #[.int .i64 r.1.1, r.2]) (hr2 : ∃ p n c, r.2 = .slice p n c)
    (hS : ∀ w', Below wr.heap.size wr w' → S w')
    (hQ : ∀ x0 x3 x5 x6 x7 b w', Below wr.heap.size wr w' → w'.ownsRow wr.heap.size 55 2 x6 (rs.length + 1) (rvCells (rs ++ [r])) → wr.heap.size ≤ b → w'.heap[b]? = some (.cells #[x6] 24 (0, 0)) → Q .normal (mk24 a x0 x3 x5 x6 x7 (.pointer (some ⟨b, 0, none⟩))) w')
    (fuel : Nat) (listed : Array Bool) (hf : listed.count false ≤ fuel) (hl : listed = #[false, true, true, false, true, false, false, false, false, false]) (x0 x3 x5 x6 x7 x8 : Value) : wpAnyR Tryd.prog ops Q S 9 fuel listed (mk24 a x0 x3 x5 x6 x7 x8) wr := by
  simp only [Bool.and_eq_true] at hw
  obtain ⟨⟨⟨⟨⟨⟨w30, w63⟩, w65⟩, w76⟩, w97⟩, w98⟩, w96⟩ := hw
  refine wpAnyR_inv (J := fun listed a' w => listed.size = 10 ∧ listed.getD 1 false = true ∧ listed.getD 2 false = true ∧ listed.getD 4 false = true ∧ Cl24 (fun k => listed.getD k false) ∧ ∃ x0 x3 x5 x6 x7 x8, a' = mk24 a x0 x3 x5 x6 x7 x8 ∧ G24 wr rs r (fun k => listed.getD k false) x0 x3 x5 x6 x7 x8 w) ?_ ?_ fuel listed _ wr hf ?_
  · rintro listed a' w ⟨hz, l1, l2, l4, C, x0, x3, x5, x6, x7, x8, rfl, G⟩ i hi
    have hun := (mem_ready.1 hi).1
    have hi10 : i < listed.size := by
      rcases Nat.lt_or_ge i listed.size with h' | h'
      · exact h'
      · simp [Array.getElem?_eq_none h'] at hun
    have hun' : listed.getD i false = false := by simpa [hi10] using hun
    have hset : (fun k => (listed.setIfInBounds i true).getD k false) = upB i (fun k => listed.getD k false) := funext fun k => listed_set hi10
    have hset' : ∀ k, listed.getD k false = true → (listed.setIfInBounds i true).getD k false = true := fun k h => by rw [listed_set hi10, h]; simp
    have hwt := fun j hj => ready_waits (ops := ops) (listed := listed) (i := i) (j := j) hi hj
    have hB : wr.heap.size ≤ w.heap.size := G.low.size
    have key : ∀ {y0 y3 y5 y6 y7 y8 : Value} {w' : World}, Cl24 (upB i (fun k => listed.getD k false)) → G24 wr rs r (upB i (fun k => listed.getD k false)) y0 y3 y5 y6 y7 y8 w' →
        (i = 9 ∨ S w') ∧ (listed.setIfInBounds i true).size = 10 ∧ (listed.setIfInBounds i true).getD 1 false = true ∧ (listed.setIfInBounds i true).getD 2 false = true ∧ (listed.setIfInBounds i true).getD 4 false = true ∧ Cl24 (fun k => (listed.setIfInBounds i true).getD k false) ∧
          ∃ x0 x3 x5 x6 x7 x8, mk24 a y0 y3 y5 y6 y7 y8 = mk24 a x0 x3 x5 x6 x7 x8 ∧ G24 wr rs r (fun k => (listed.setIfInBounds i true).getD k false) x0 x3 x5 x6 x7 x8 w' := fun hC hG =>
      ⟨.inr (hS _ hG.low), by simpa using hz, hset' 1 l1, hset' 2 l2, hset' 4 l4, by rw [hset]; exact hC, _, _, _, _, _, _, rfl, by rw [hset]; exact hG⟩
    rw [hz] at hi10
    have hcase : i = 0 ∨ i = 1 ∨ i = 2 ∨ i = 3 ∨ i = 4 ∨ i = 5 ∨ i = 6 ∨ i = 7 ∨ i = 8 ∨ i = 9 := by omega
    rcases hcase with rfl | rfl | rfl | rfl | rfl | rfl | rfl | rfl | rfl | rfl
    · refine wpOp_value o0 h0 g0 (.slice (some ⟨w.heap.size, 0, none⟩) 0 0) (w.alloc (.cells #[] 55)) ?_ ?_
      · simp only [execOp, e0, Sem.run_bind, List.map_toArray, List.map_nil, run_empty22, Result.andThen_ok, Sem.run_pure]
      · rw [d0, mk24_0]
        exact key (C.up (by simp) (by simp) (by simp) (by simp)) (G.s0 C hun')
    · rw [l1] at hun'; cases hun'
    · rw [l2] at hun'; cases hun'
    · have k0 := hwt 0 w30
      obtain ⟨v', w', hr, ho, hg, hv⟩ := run_appR w o3.type wr.heap.size x0 0 [] (G.f0 k0 hun') rs pa pc pb po (RVs.below (w := wr) hrv G.low) hp0 (by omega) hB
      refine wpOp_value o3 h3 g3 v' w' ?_ ?_
      · simp only [execOp, e3, resolve, invoke, builtin, Sem.run_bind, Sem.run_pure, Result.andThen_ok, List.map_toArray, List.map_cons, List.map_nil, mk24_e0 _ _ _ _ _ _ hs, mk24_ne _ _ _ _ _ _ 108 (.inl rfl), q108, hr]
      · rw [d3, mk24_3]
        exact key (C.up (fun _ => k0) (by simp) (by simp) (by simp)) (G.s3 C hun' k0 ho hg hv)
    · rw [l4] at hun'; cases hun'
    · obtain ⟨p2, n2, c2, hr2⟩ := hr2
      refine wpOp_value o5 h5 g5 (.slice (some ⟨w.heap.size, 0, none⟩) 1 1) (w.alloc (.cells #[.int .i64 r.1.1, r.2] 55)) ?_ ?_
      · simp only [execOp, e5, Sem.run_bind, List.map_toArray, List.map_cons, List.map_nil, mk24_ne _ _ _ _ _ _ 110 (.inr rfl), q110, run_one22 _ _ _ _ _ _ hr2, Result.andThen_ok, Sem.run_pure]
      · rw [d5, mk24_5]
        exact key (C.up (by simp) (by simp) (by simp) (by simp)) (G.s5 C hun')
    · have k3 := hwt 3 w63
      have k5 := hwt 5 w65
      obtain ⟨b, rfl, hb, hlt, _, n3⟩ := G.f5 k5 hun'
      obtain ⟨i0, HI⟩ := part55
      obtain ⟨p2, n2, c2, hr2⟩ := hr2
      obtain ⟨v', w', hr, ho, hg, _, _⟩ := run_append_own_at (P := Tryd.prog) w wr.heap.size 22 o6.type 55 i0 (.agg #[.int .i64 0, .slice none 0 0]) 2 32 Tryd.underlying22 HI.out.1 HI.out.2.1 HI.out.2.2.1 HI.out.2.2.2 rfl (by decide) x3 rs.length (rvCells rs) (G.f3 k3 hun') ⟨b, 0, none⟩ 1 1 [.int .i64 r.1.1, r.2] rfl
        (fun j u hu => by
          rw [Addr.add_mid, cell_of_row w b _ _ _ _ hb, Nat.zero_add]
          simpa using hu)
        (fun u hu => by
          rcases List.mem_cons.1 hu with rfl | hu
          · rfl
          · obtain rfl : u = r.2 := by simpa using hu
            rw [hr2]; rfl)
        (by unfold maxLen; omega) (by omega) hB
      refine wpOp_value o6 h6 g6 v' w' ?_ ?_
      · simp only [execOp, e6, resolve, invoke, builtin, Sem.run_bind, Sem.run_pure, Result.andThen_ok, List.map_toArray, List.map_cons, List.map_nil, mk24_e3 _ _ _ _ _ _ hs, mk24_e5 _ _ _ _ _ _ hs, hr]
      · rw [d6, mk24_6]
        exact key (C.up (by simp) (fun _ => ⟨k3, k5⟩) (by simp) (by simp)) (G.s6 C hun' k3 (by rw [rvCells_snoc]; exact ho) hg)
    · have k6 := hwt 6 w76
      obtain ⟨p6, c6, hx6⟩ := own_slice (G.f6 k6)
      refine wpOp_value o7 h7 g7 (.agg #[x6]) w ?_ ?_
      · simp only [execOp, e7, Sem.run_bind, List.map_toArray, List.map_cons, List.map_nil, mk24_e6 _ _ _ _ _ _ hs, run_build24 _ _ _ _ _ hx6, Result.andThen_ok, Sem.run_pure]
      · rw [d7, mk24_7]
        exact key (C.up (by simp) (by simp) (fun _ => k6) (by simp)) G.s7
    · refine wpOp_value o8 h8 g8 (.pointer (some ⟨w.heap.size, 0, none⟩)) (w.alloc (.cells #[.slice none 0 0] 24)) ?_ ?_
      · simp only [execOp, e8, Sem.run_bind, run_alloc24, Result.andThen_ok, Sem.run_pure]
      · rw [d8, mk24_8]
        exact key (C.up (by simp) (by simp) (by simp) (by simp)) (G.s8 C hun')
    · have k7 := hwt 7 w97
      have k8 := hwt 8 w98
      have k6 := hwt 6 w96
      obtain ⟨p6, c6, hx6⟩ := own_slice (G.f6 k6)
      obtain ⟨b, hx8, hlt, hb⟩ := G.f8 k8
      simp only [hun', Bool.false_eq_true, if_false] at hb
      have hx7 := G.f7 k7
      refine wpOp_skp o9 h9 g9 (w.setCell ⟨b, 0, none⟩ x6) ?_ ?_
      · simp only [execOp, e9, Sem.run_bind, mk24_e8 _ _ _ _ _ _ hs, mk24_e7 _ _ _ _ _ _ hs, hx8, hx7, run_store24 w b _ _ _ _ _ hx6 hb, Result.andThen_ok, Sem.run_pure]
      · rw [d9, put_none]
        exact key (C.up (by simp) (by simp) (by simp) (fun _ => ⟨k7, k8⟩)) (G.s9 C k7 hx8 hlt hb)
  · rintro listed a' w ⟨hz, l1, l2, l4, C, x0, x3, x5, x6, x7, x8, rfl, G⟩ hr
    have hall := ready_nil hso (by rw [hz, hsz]) hr
    have k6 := hall 6 (by omega)
    have k8 := hall 8 (by omega)
    have k9 := hall 9 (by omega)
    obtain ⟨b, rfl, hlt, hb⟩ := G.f8 k8
    simp only [k9, if_true] at hb
    exact hQ x0 x3 x5 x6 x7 b w G.low (G.f6 k6) hlt hb
  · subst hl
    refine ⟨rfl, rfl, rfl, rfl, ⟨by simp, by simp, by simp, by simp⟩, _, _, _, _, _, _, rfl, ⟨Below.refl _ _, by simp, by simp, by simp, by simp, by simp, by simp⟩⟩
theorem put_self (a : Act) (d : Nat) : a.put (some d) (a.eval (.tmp d)) = a := by
  obtain ⟨t, ds⟩ := a
  simp only [Act.put, Act.eval]
  congr 1
  apply Array.ext
  · simp
  · intro i h1 h2
    rw [Array.getElem_setIfInBounds (by simpa using h1)]
    split
    · rename_i h; subst h; simp [Array.getD, h2]
    · rfl
theorem mk24_self (a : Act) : ∃ x0 x3 x5 x6 x7 x8, a = mk24 a x0 x3 x5 x6 x7 x8 := by
  refine ⟨a.eval (.tmp 106), a.eval (.tmp 109), a.eval (.tmp 111), a.eval (.tmp 112), a.eval (.tmp 113), a.eval (.tmp 22), ?_⟩
  unfold mk24
  simp only [put_self]
theorem run_field24 (w : World) (b : Nat) : (Instr.fieldAt 24 (.pointer (some ⟨b, 0, none⟩)) 0).run Tryd.prog w = .ok (.pointer (some ⟨b, 0, none⟩)) w := by
  go_simp
theorem run_load22 (w : World) (b : Nat) (v : Value) (n c : Nat) (p : Option Addr) (hv : v = .slice p n c) (h : w.cell? ⟨b, 0, none⟩ = some v) : (Instr.loadAt 22 (.pointer (some ⟨b, 0, none⟩))).run Tryd.prog w = .ok v w := by
  subst hv
  go_simp
theorem run_load55 (w : World) (b : Nat) (z : Int) (v : Value) (n c : Nat) (p : Option Addr) (hv : v = .slice p n c) (h0 : w.cell? ⟨b, 0, none⟩ = some (.int .i64 z)) (h1 : w.cell? ⟨b, 1, none⟩ = some v) : (Instr.loadAt 55 (.pointer (some ⟨b, 0, none⟩))).run Tryd.prog w = .ok (.agg #[.int .i64 z, v]) w := by
  subst hv
  go_simp
set_option maxHeartbeats 1000000 in
theorem region24_wp {id : Nat} {ops : Array Oper} {Q : Exit → Act → World → Prop} (o0 o1 o2 o3 o4 o5 o6 o7 o8 o9 : Oper)
    (h0 : ops[0]? = some o0) (h1 : ops[1]? = some o1) (h2 : ops[2]? = some o2) (h3 : ops[3]? = some o3) (h4 : ops[4]? = some o4) (h5 : ops[5]? = some o5) (h6 : ops[6]? = some o6) (h7 : ops[7]? = some o7) (h8 : ops[8]? = some o8) (h9 : ops[9]? = some o9) (hsz : ops.size = 10)
    (e0 : o0.op = .buildSlice 22 0 #[]) (e1 : o1.op = .fieldAddr 24 (.tmp 9) 0) (e2 : o2.op = .load 22 (.tmp 107)) (e3 : o3.op = .call { callee := .builtin .append, args := #[.tmp 106, .tmp 108], argTypes := #[22, 22] }) (e4 : o4.op = .load 55 (.tmp 21)) (e5 : o5.op = .buildSlice 22 1 #[(0, .tmp 110)])
    (e6 : o6.op = .call { callee := .builtin .append, args := #[.tmp 109, .tmp 111], argTypes := #[22, 22] }) (e7 : o7.op = .build 24 #[(0, .tmp 112)]) (e8 : o8.op = .alloc 24) (e9 : o9.op = .store 24 (.tmp 22) (.tmp 113))
    (d0 : o0.dst = some 106) (d1 : o1.dst = some 107) (d2 : o2.dst = some 108) (d3 : o3.dst = some 109) (d4 : o4.dst = some 110) (d5 : o5.dst = some 111) (d6 : o6.dst = some 112) (d7 : o7.dst = some 113) (d8 : o8.dst = some 22) (d9 : o9.dst = none)
    (g0 : o0.guard = none) (g1 : o1.guard = none) (g2 : o2.guard = none) (g3 : o3.guard = none) (g4 : o4.guard = none) (g5 : o5.guard = none) (g6 : o6.guard = none) (g7 : o7.guard = none) (g8 : o8.guard = none) (g9 : o9.guard = none)
    (hso : sortedB ops = true) (hw : (waitB ops 3 0 && waitB ops 6 3 && waitB ops 6 5 && waitB ops 7 6 && waitB ops 9 7 && waitB ops 9 8 && waitB ops 9 6) = true)
    (hsel : Region.noSelect ops = true) (hL : lastB ops 9 = true)
    (f1 : (Region.free .any ops (Array.replicate 10 false) 1 && (Region.ready .any ops (Array.replicate 10 false)).contains 1) = true)
    (f2 : (Region.free .any ops #[false, true, false, false, false, false, false, false, false, false] 2 && (Region.ready .any ops #[false, true, false, false, false, false, false, false, false, false]).contains 2) = true)
    (f4 : (Region.free .any ops #[false, true, true, false, false, false, false, false, false, false] 4 && (Region.ready .any ops #[false, true, true, false, false, false, false, false, false, false]).contains 4) = true)
    (hQp : ∀ c a d v w, Q (.panic c) (a.put d v) w → Q (.panic c) a w)
    (a : Act) (hs : 160 < a.tmps.size) (W : World) (rs : List RV) (r : RV) (pa : Option Addr) (pc pb po n : Nat) (hrl : rs.length = n) (hrv : RVs W pb po rs) (hp0 : 0 < n → pa = some ⟨pb, po, none⟩) (hn : n ≤ 1000)
    (b9 b21 : Nat) (q9 : a.eval (.tmp 9) = .pointer (some ⟨b9, 0, none⟩)) (q21 : a.eval (.tmp 21) = .pointer (some ⟨b21, 0, none⟩))
    (c9 : W.cell? ⟨b9, 0, none⟩ = some (.slice pa n pc)) (k0 : W.cell? ⟨b21, 0, none⟩ = some (.int .i64 r.1.1)) (k1 : W.cell? ⟨b21, 1, none⟩ = some r.2) (hr2 : ∃ p n c, r.2 = .slice p n c)
    (hQ : ∀ x0 x3 x5 x6 x7 b w', Below W.heap.size W w' → w'.ownsRow W.heap.size 55 2 x6 (n + 1) (rvCells (rs ++ [r])) → W.heap.size ≤ b → w'.heap[b]? = some (.cells #[x6] 24 (0, 0)) →
      Q .normal (mk24 (((a.put (some 107) (.pointer (some ⟨b9, 0, none⟩))).put (some 108) (.slice pa n pc)).put (some 110) (.agg #[.int .i64 r.1.1, r.2])) x0 x3 x5 x6 x7 (.pointer (some ⟨b, 0, none⟩))) w') :
    (Code.region id ops true).wp Tryd.prog Q a W := by
  subst hrl
  have hp0' : 0 < rs.length → pa = some ⟨pb, po, none⟩ := hp0
  simp only [Bool.and_eq_true] at f1 f2 f4
  have bD : Below W.heap.size W W.drew := (Below.refl _ _).drew
  let S : World → Prop := fun w' => w'.cell? ⟨b9, 0, none⟩ = some (.slice pa rs.length pc) ∧ w'.cell? ⟨b21, 0, none⟩ = some (.int .i64 r.1.1) ∧ w'.cell? ⟨b21, 1, none⟩ = some r.2
  have hS : ∀ w', Below W.drew.heap.size W.drew w' → S w' := fun w' hb =>
    ⟨keeps_of_below hb _ _ (keeps_of_below bD _ _ c9), keeps_of_below hb _ _ (keeps_of_below bD _ _ k0), keeps_of_below hb _ _ (keeps_of_below bD _ _ k1)⟩
  have hwant : ∀ (o : Oper) (t : Array Value), o.guard = none → Region.wanted o (yielded ops t) = true := fun o t h => by simp [Region.wanted, h]
  obtain ⟨p2, n2, c2, hr2'⟩ := hr2
  refine wp_region_any (by kernel_rfl) (wpAny_of_R (S := S) (L := 9) _ _ _ _ ?_)
  rw [hsz]
  refine wpAnyQ_take (L := 9) (S := S) hL (v := .pointer (some ⟨b9, 0, none⟩)) (fuel := 9) h1 hsel f1.1 f1.2 (fun c a w => hQp c a _ _ w) (.inl ⟨hwant _ _ g1, fun w' _ => .inl ?_⟩) (hS _ (Below.refl _ _)) (by rw [← hsz]; exact ClosedL.start _) ?_
  · simp only [execOp, e1, Sem.run_bind, q9, run_field24, Result.andThen_ok, Sem.run_pure]
  have hc1 : ClosedL ops #[false, true, false, false, false, false, false, false, false, false] := by
    exact (ClosedL.start (ops := ops) 10).set (j := 1) (by simpa using f1.2)
  refine wpAnyQ_take (L := 9) (S := S) hL (v := .slice pa rs.length pc) (fuel := 8) h2 hsel f2.1 f2.2 (fun c a w => hQp c a _ _ w) (.inl ⟨hwant _ _ g2, fun w' hs' => .inl ?_⟩) (hS _ (Below.refl _ _)) hc1 ?_
  · have e107 : (a.put o1.dst (.pointer (some ⟨b9, 0, none⟩))).eval (.tmp 107) = .pointer (some ⟨b9, 0, none⟩) := by rw [d1]; exact Act.eval_put_same _ _ _ (by omega)
    simp only [execOp, e2, Sem.run_bind, e107, run_load22 w' b9 _ _ _ _ rfl hs'.1, Result.andThen_ok, Sem.run_pure]
  have hc2 : ClosedL ops #[false, true, true, false, false, false, false, false, false, false] := by
    exact hc1.set (j := 2) (by simpa using f2.2)
  refine wpAnyQ_take (L := 9) (S := S) hL (v := .agg #[.int .i64 r.1.1, r.2]) (fuel := 7) h4 hsel f4.1 f4.2 (fun c a w => hQp c a _ _ w) (.inl ⟨hwant _ _ g4, fun w' hs' => .inl ?_⟩) (hS _ (Below.refl _ _)) hc2 ?_
  · have e21 : ((a.put o1.dst (.pointer (some ⟨b9, 0, none⟩))).put o2.dst (.slice pa rs.length pc)).eval (.tmp 21) = .pointer (some ⟨b21, 0, none⟩) := by
      rw [d1, d2, Act.eval_put_ne _ _ _ _ (by decide), Act.eval_put_ne _ _ _ _ (by decide), q21]
    simp only [execOp, e4, Sem.run_bind, e21, run_load55 w' b21 _ _ _ _ _ hr2' hs'.2.1 hs'.2.2, Result.andThen_ok, Sem.run_pure]
  rw [d1, d2, d4]
  have sA : 160 < (((a.put (some 107) (.pointer (some ⟨b9, 0, none⟩))).put (some 108) (.slice pa rs.length pc)).put (some 110) (.agg #[.int .i64 r.1.1, r.2])).tmps.size := by simp only [Act.size_put]; exact hs
  have e108 : (((a.put (some 107) (.pointer (some ⟨b9, 0, none⟩))).put (some 108) (.slice pa rs.length pc)).put (some 110) (.agg #[.int .i64 r.1.1, r.2])).eval (.tmp 108) = .slice pa rs.length pc := by
    rw [Act.eval_put_ne _ _ _ _ (by decide)]; exact Act.eval_put_same _ _ _ (by simp only [Act.size_put]; omega)
  have e110 : (((a.put (some 107) (.pointer (some ⟨b9, 0, none⟩))).put (some 108) (.slice pa rs.length pc)).put (some 110) (.agg #[.int .i64 r.1.1, r.2])).eval (.tmp 110) = .agg #[.int .i64 r.1.1, r.2] :=
    Act.eval_put_same _ _ _ (by simp only [Act.size_put]; omega)
  generalize (((a.put (some 107) (.pointer (some ⟨b9, 0, none⟩))).put (some 108) (.slice pa rs.length pc)).put (some 110) (.agg #[.int .i64 r.1.1, r.2])) = A at sA e108 e110 hQ ⊢
  obtain ⟨x0, x3, x5, x6, x7, x8, hm⟩ := mk24_self A
  have := region24 o0 o3 o5 o6 o7 o8 o9 h0 h3 h5 h6 h7 h8 h9 hsz e0 e3 e5 e6 e7 e8 e9 d0 d3 d5 d6 d7 d8 d9 g0 g3 g5 g6 g7 g8 g9 hso hw A sA W.drew rs r pa pc pb po (RVs.below (w := W) hrv bD) hp0' hn e108 e110 ⟨p2, n2, c2, hr2'⟩ hS
    (fun y0 y3 y5 y6 y7 b w' hb ho hlt hbb => hQ y0 y3 y5 y6 y7 b w' (bD.trans (hb.mono bD.size)) ho hlt hbb) 7 _ (by decide) rfl x0 x3 x5 x6 x7 x8
  rw [← hm] at this
  exact this

/-- a protocol of the call's own that grows rule by rule: its block, its row, what lies below -/
structure BS (w0 : World) (b : Nat) (rs : List RV) (j : Nat) (v : Value) (W : World) : Prop where
  box : W.heap[b]? = some (.cells #[v] 24 (0, 0))
  own : W.ownsRow (b + 1) 55 2 v j (rvCells (rs.reverse.take j))
  low : Below b w0 W
theorem BS.next {w0 W W1 W2 : World} {b j : Nat} {rs : List RV} {v v' : Value} {q : RV} (h : BS w0 b rs j v W) (hb0 : w0.heap.size = b) (hq : rs.reverse[j]? = some q) (hb : Below W.heap.size W W1)
    (hown : W2.ownsRow (b + 1) 55 2 v' (j + 1) (rvCells (rs.reverse.take j) ++ [.int .i64 q.1.1, q.2])) (hg : W1.grownBy W2 v.ownBlock) :
    BS w0 b rs (j + 1) v' (W2.setCell ⟨b, 0, none⟩ v') := by
  have hg1 : W.grownBy W2 v.ownBlock := grown_trans (grownBel hb _) hg
  have hbl := heap_lt h.box
  have hvb : v.ownBlock ≠ some b := fun e => by have := (h.own.lt b e).1; omega
  have hb2 : W2.heap[b]? = some (.cells #[v] 24 (0, 0)) := (hg1.block b hbl (fun e => hvb e.symm)).trans h.box
  have hset : W2.grownBy (W2.setCell ⟨b, 0, none⟩ v') (some b) := grown_set (grownBel (Below.refl _ _) _) _ _
  have e : rs.reverse.take (j + 1) = rs.reverse.take j ++ [q] := by rw [List.take_add_one, hq]; rfl
  refine ⟨one_setCell hb2, ?_, ?_⟩
  · rw [e, rvCells_snoc]
    exact grown_kept hown hset fun i hi => by have := (hown.lt i hi).1; simp; omega
  · refine (h.low.grown hg1 (by rw [← hb0]; exact h.low.size) fun k hk => by have := (h.own.lt k hk).1; omega).trans ?_
    exact (Below.refl _ _).setCell (p := ⟨b, 0, none⟩) (Nat.le_refl _) _
theorem rules_rs {w : World} {a : Option Addr} {c : Nat} {p : Pr} (h : Rules w (.slice a p.length c) p) :
    ∃ (pb po : Nat) (rs : List RV), rs.map (·.1) = p ∧ RVs w pb po rs ∧ (0 < p.length → a = some ⟨pb, po, none⟩) := by
  obtain ⟨a', c', e, h1, h2, h3⟩ := h
  obtain ⟨rfl, rfl⟩ : a = a' ∧ c = c' := by simpa using e
  by_cases hne : p = []
  · subst hne
    exact ⟨0, 0, [], rfl, fun i q h => by simp at h, fun h => by simp at h⟩
  · obtain ⟨b, o, e, hc⟩ := h3 hne
    obtain ⟨rs, h1, h2⟩ := rvs_of p o hc
    exact ⟨b, o, rs, h1, h2, fun _ => e⟩

theorem rules_slice {w : World} {v : Value} {p : Pr} (h : Rules w v p) : ∃ a c, v = .slice a p.length c := by
  obtain ⟨a, c, rfl, _⟩ := h; exact ⟨a, c, rfl⟩
set_option maxRecDepth 100000 in
set_option maxHeartbeats 16000000 in
theorem f8_any (xv yv zv : Value) (n n2 : Nat) (op : Int) (ys : List Int) (w : World) (hlay : Lay w) (hx : Fours w xv n) (hy : Ints w yv ys) (ho : I64 op) (hz : Fours w zv n2) :
    Calls Tryd.prog 8 #[xv, .int .i64 op, yv, zv] w (LawPost w) := by
  have HZ := Lib.hid hz
  clear hz
  have HX := Lib.hid hx
  have HY := Lib.hid hy
  have HLAY := Lib.hid hlay
  obtain ⟨o, ho4, _, hqo⟩ := pick_nat op 4 4 rfl ho (by decide) (by decide)
  have HQO := Lib.hid hqo
  clear hx hy hlay hqo ho
  go_enter Tryd.func8, Tryd.ntmps8
  go_wp2_with fail
  refine (f10_any w HLAY.out).mono ?_
  rintro e w1 ⟨rfl, hb1⟩
  have HB1 := Lib.hid hb1
  clear hb1
  go_wp2_with fail
  refine (f11_any xv n w1 (HX.out.below HB1.out)).mono ?_
  rintro e w2 ⟨pv, p, rfl, hp, hm, hb2⟩
  have hp' := hp
  obtain ⟨pa, pc, rfl, z1, z2, z3⟩ := hp'
  clear z1 z2 z3
  have bA : Below w2.heap.size w2 (w2.alloc (.cells #[.slice pa p.length pc] 24)) := (Below.refl _ _).alloc (Nat.le_refl _) _
  have HP := Lib.hid (hp.below bA)
  have HB2 : Hid (Below w.heap.size w (w2.alloc (.cells #[.slice pa p.length pc] 24))) := HB1.out.trans ((hb2.mono HB1.out.size).trans (bA.mono (Nat.le_trans HB1.out.size hb2.size)))
  have HM := Lib.hid hm
  clear hp hm hb2 bA
  go_wp2_with (go_at_call 13; with_reducible refine (HQO.out _).mono ?_; rintro e w3 ⟨rfl, rfl⟩)
  refine (f14_any (.slice pa p.length pc) yv p o ys _ HP.out (HY.out.below HB2.out) HM.out.valid HM.out.ops).mono ?_
  rintro e w4 ⟨lv, l, rfl, hl, hl4, hl12, hb4⟩
  have hl' := hl
  obtain ⟨la, lc, rfl, z1, z2, z3, z4⟩ := hl'
  clear z1 z2 z3 z4
  have HP4 := Lib.hid (HP.out.below hb4)
  have HB4 : Hid (Below w.heap.size w w4) := HB2.out.trans (hb4.mono HB2.out.size)
  have p4 : w4.cell? ⟨w2.heap.size, 0, none⟩ = some (.slice pa p.length pc) := keeps_of_below hb4 _ _ (by go_simp)
  have HL := Lib.hid hl
  have HL4 := Lib.hid hl4
  clear hl hb4 hl4 HP
  have g1 : Good p (o : Int) l := good_made HM.out ho4 HL4.out (by omega)
  have r1 := match_err g1
  obtain ⟨al, ae, hma⟩ : ∃ al ae, matchF p o l = (al, ae) := ⟨_, _, rfl⟩
  rw [hma] at r1
  simp only at r1
  have HG := Lib.hid g1
  have HMA := Lib.hid hma
  have R1 := Lib.hid r1
  clear g1 hma r1
  go_wp2_with fail
  refine (mcall HMA.out (.slice pa p.length pc) (.slice la l.length lc) w4 HP4.out HL.out).mono ?_
  rintro e w5 ⟨av, rfl, hav, hb5⟩
  have hav' := hav
  obtain ⟨aa, ac, rfl, z1, z2, z3, z4⟩ := hav'
  clear z1 z2 z3 z4
  have hB : w2.heap.size < w4.heap.size := World.block_lt_of_cell? _ _ p4
  have p5 : w5.cell? ⟨w2.heap.size, 0, none⟩ = some (.slice pa p.length pc) := keeps_of_below hb5 _ _ p4
  have HP5 := Lib.hid (HP4.out.below hb5)
  have HAV := Lib.hid hav
  have HL5 := Lib.hid (HL.out.below hb5)
  have HB5 : Hid (Below w.heap.size w w5) := HB4.out.trans (hb5.mono HB4.out.size)
  have hB5 : w2.heap.size < w5.heap.size := World.block_lt_of_cell? _ _ p5
  have P5 := Lib.hid p5
  obtain ⟨b9, hb9⟩ : ∃ b9, b9 = w2.heap.size := ⟨_, rfl⟩
  rw [← hb9] at P5 hB5 p5 ⊢
  obtain ⟨pb, po, rs, hrs, hrv, hp0⟩ := rules_rs HP5.out
  have hrl : rs.length = p.length := by rw [← hrs, List.length_map]
  have hp8 : p.length ≤ 8 := HM.out.1
  have HRS := Lib.hid hrs
  have HRV := Lib.hid hrv
  have HP0 := Lib.hid hp0
  have HRL := Lib.hid hrl
  have hst : BS w5 w5.heap.size rs 0 (.slice none 0 0) (w5.alloc (.cells #[.slice none 0 0] 24)) := ⟨World.alloc_heap_new _ _, ⟨rfl, .inl ⟨rfl, rfl⟩⟩, (Below.refl _ _).alloc (Nat.le_refl _) _⟩
  have HST := Lib.hid hst
  clear hav hb5 p4 HP4 HL hB hrs hrv hp0 hrl hst hb9 HB4 HB2 HB1
  go_wp2_with fail
  go_loopw [15, 16] (fun vr vi wr => ∃ (j r : Nat) (v : Value), vr = .int .i64 r ∧ vi = .int .i64 ((p.length : Int) - 1 - j) ∧ j ≤ p.length ∧ r ≤ j ∧ (0 < r → rulesOf p o ≠ []) ∧ BS w5 w5.heap.size rs j v wr) (fun _ vi _ => (intOf vi + 1).toNat)
  case atStart => exact ⟨0, 0, .slice none 0 0, rfl, by go_num, by omega, by omega, fun h => by omega, HST.out⟩
  case round =>
    obtain ⟨j, r, v, rfl, rfl, hj, hr, hr0, hbs⟩ := hrel
    obtain ⟨va, vc, rfl⟩ := own_slice hbs.own
    by_cases hlt : j < p.length
    · obtain rfl := HP0.out (by omega)
      obtain ⟨m, hm⟩ : ∃ m, m = p.length - 1 - j := ⟨_, rfl⟩
      have e : (p.length : Int) - 1 - (j : Int) = (m : Int) := by omega
      rw [e]
      obtain ⟨q, hq⟩ := get_some rs m (by have := HRL.out; omega)
      have hqr : rs.reverse[j]? = some q := by
        rw [List.getElem?_reverse (by have := HRL.out; omega), ← hq, HRL.out, hm]
      obtain ⟨c0, c1, ci⟩ := HRV.out m q hq
      have hqo : q.1.1 = o → rulesOf p o ≠ [] := fun h hn => by
        have hmem : q.1 ∈ rulesOf p o := by
          unfold rulesOf
          rw [List.mem_filter, decide_eq_true_eq]
          exact ⟨by rw [← HRS.out]; exact List.mem_map.2 ⟨q, List.mem_of_getElem? hq, rfl⟩, h⟩
        rw [hn] at hmem; cases hmem
      have HQR := Lib.hid hqr
      have HQR2 := Lib.hid hqo
      obtain ⟨⟨qo, qi⟩, qv⟩ := q
      obtain ⟨ia, ic, rfl, i1, i2, i3⟩ : Items w5 qv qi := ci
      unfold maxLen at i2
      simp only at c0 c1
      have C0 := Lib.hid c0
      have C1 := Lib.hid c1
      have k0 : (0 : Int) ≤ (m : Int) := by omega
      have k1 : (m : Int) < (p.length : Int) := by omega
      have p6 : wr.cell? ⟨b9, 0, none⟩ = some (.slice (some ⟨pb, po, none⟩) p.length pc) := keeps_of_below hbs.low _ _ P5.out
      have c0 := keeps_of_below hbs.low _ _ c0
      have c1 := keeps_of_below hbs.low _ _ c1
      have hx0 : wr.cell? ⟨w5.heap.size, 0, none⟩ = some (.slice va j vc) := (cell_of_row wr _ 0 _ _ _ hbs.box).trans rfl
      obtain ⟨i0, HI0⟩ := part55
      have hsz : w5.heap.size + 1 ≤ wr.heap.size := heap_lt hbs.box
      have HBS := Lib.hid hbs
      have HM' := Lib.hid hm
      clear i3 hq hqr hqo hbs hm e
      go_wp2_with fail
      refine wp_region_ordQ 10 [(0, true), (1, true), (2, true), (3, true), (4, true), (5, true), (6, true), (7, false), (8, false), (9, true), (10, false)] (fun w' => w'.cell? ⟨b9, 0, none⟩ = some (.slice (some ⟨pb, po, none⟩) p.length pc) ∧ w'.cell? ⟨w5.heap.size, 0, none⟩ = some (.slice va j vc) ∧ w'.cell? ⟨pb, po + m * 2, none⟩ = some (.int .i64 qo) ∧ w'.cell? ⟨pb, po + m * 2 + 1, none⟩ = some (.slice ia qi.length ic))
        (by kernel_rfl) (by kernel_rfl) (by kernel_rfl) rfl (by kernel_rfl) (fun _ _ d _ _ h => by cases d <;> exact h) ⟨p6, hx0, c0, c1⟩ ?_
      refine wpP_light _ rfl rfl _ (fun w' hS => by go_simp; rfl) ?_
      refine wpP_light _ rfl rfl _ (fun w' hS => by obtain ⟨s1, s2, s3, s4⟩ := hS; go_simp; rfl) ?_
      refine wpP_light _ rfl rfl _ (fun w' hS => by go_simp; rfl) ?_
      go_simp
      refine wpP_light _ rfl rfl _ (fun w' hS => by obtain ⟨s1, s2, s3, s4⟩ := hS; go_simp; rfl) ?_
      refine wpP_light _ rfl rfl _ (fun w' hS => by go_simp; rfl) ?_
      refine wpP_light _ rfl rfl _ (fun w' hS => by go_simp; rfl) ?_
      go_simp
      refine wpP_light _ rfl rfl _ (fun w' hS => by obtain ⟨s1, s2, s3, s4⟩ := hS; go_simp; rfl) ?_
      go_simp
      have bV : Below wr.drew.heap.size wr.drew (wr.drew.alloc (.cells #[.int .i64 qo, .slice ia qi.length ic] 55)) := (Below.refl _ _).alloc (Nat.le_refl _) _
      refine wpP_value _ rfl rfl (.slice (some ⟨wr.heap.size, 0, none⟩) 1 1) (wr.drew.alloc (.cells #[.int .i64 qo, .slice ia qi.length ic] 55)) ?_ ⟨.inr ⟨keeps_of_below bV _ _ p6, keeps_of_below bV _ _ hx0, keeps_of_below bV _ _ c0, keeps_of_below bV _ _ c1⟩, ?_⟩
      · go_simp
      refine wpP_append _ rfl rfl (.tmp 53) (.tmp 59) 22 rfl (w5.heap.size + 1) 55 i0 (.agg #[.int .i64 0, .slice none 0 0]) 2 32 Tryd.underlying22 HI0.out.1 HI0.out.2.1 HI0.out.2.2.1 HI0.out.2.2.2 rfl (by decide) (.slice va j vc) j (rvCells (rs.reverse.take j)) rfl (own_bel (own_bel HBS.out.own (Below.refl _ _).drew) bV) ⟨wr.heap.size, 0, none⟩ 1 1 [.int .i64 qo, .slice ia qi.length ic] rfl rfl ?_ ?_ ?_ ?_ ?_ ?_
      · exact new_cells _ [.int .i64 qo, .slice ia qi.length ic] 55 _ rfl
      · intro u hu
        simp only [List.mem_cons, List.not_mem_nil, or_false] at hu
        rcases hu with rfl | rfl <;> rfl
      · unfold maxLen; omega
      · omega
      · simp; omega
      intro v1 w1 ho1 hg1 _
      obtain ⟨a1, c1', rfl⟩ := own_slice ho1
      have bD : Below wr.heap.size wr (wr.drew.alloc (.cells #[.int .i64 qo, .slice ia qi.length ic] 55)) := (Below.refl _ wr).drew.trans bV
      have hg2 : wr.grownBy w1 (Value.slice va j vc).ownBlock := grown_trans (grownBel bD _) hg1
      have hlo : Below w5.heap.size w5 w1 := HBS.out.low.grown hg2 HBS.out.low.size (fun i e => by have := (HBS.out.own.lt i e).1; omega)
      have hb1 : w1.heap[w5.heap.size]? = some (.cells #[.slice va j vc] 24 (0, 0)) := (hg2.block _ (heap_lt HBS.out.box) (fun e => by have := (HBS.out.own.lt _ e.symm).1; omega)).trans HBS.out.box
      have q0 : w1.cell? ⟨w5.heap.size, 0, none⟩ = some (.slice va j vc) := (cell_of_row w1 _ 0 _ _ _ hb1).trans rfl
      have qf : w1.frozen? ⟨w5.heap.size, 0, none⟩ = false := frozen_of_row w1 _ 0 _ _ hb1
      have hbs2 := HBS.out.next rfl HQR.out bD ho1 hg1
      refine ⟨.inr ⟨keeps_of_below hlo _ _ P5.out, q0, keeps_of_below hlo _ _ C0.out, keeps_of_below hlo _ _ C1.out⟩, ?_⟩
      refine wpP_light _ rfl rfl _ (fun w' hS => by go_simp; rfl) ?_
      go_simp
      refine wpP_skipH _ rfl rfl (w1.setCell ⟨w5.heap.size, 0, none⟩ (.slice a1 (j + 1) c1')) ?_ ⟨.inl rfl, ?_⟩
      · go_simp
      refine wpP_nil ?_
      obtain ⟨W, hW⟩ : ∃ W, W = w1.setCell ⟨w5.heap.size, 0, none⟩ (.slice a1 (j + 1) c1') := ⟨_, rfl⟩
      rw [← hW] at hbs2 ⊢
      have p7 : W.cell? ⟨b9, 0, none⟩ = some (.slice (some ⟨pb, po, none⟩) p.length pc) := keeps_of_below hbs2.low _ _ P5.out
      have d0 : W.cell? ⟨pb, po + m * 2, none⟩ = some (.int .i64 qo) := keeps_of_below hbs2.low _ _ C0.out
      have HBS2 := Lib.hid hbs2
      clear hW hg1 hg2 hlo hb1 q0 qf ho1 bD bV hx0 c0 c1 p6 hbs2 HBS
      by_cases hqo : qo = o
      · subst hqo
        go_wp2_with fail
        exact ⟨⟨j + 1, r + 1, _, by go_num, congrArg (Value.int .i64) (by have := HM'.out; omega), by omega, by omega, fun _ => HQR2.out rfl, HBS2.out⟩, by simp only [intOf]; omega⟩
      · have dq : (qo == (o : Int)) = false := by simpa using hqo
        go_wp2_with fail
        exact ⟨⟨j + 1, r, _, rfl, congrArg (Value.int .i64) (by have := HM'.out; omega), by omega, by omega, hr0, HBS2.out⟩, by simp only [intOf]; omega⟩
    · obtain rfl : j = p.length := by omega
      have e : (p.length : Int) - 1 - (p.length : Int) = -1 := by omega
      rw [e]
      have htk : rs.reverse.take p.length = rs.reverse := List.take_of_length_le (by rw [List.length_reverse, HRL.out]; exact Nat.le_refl _)
      have hbk : Rules wr (.slice va p.length vc) p.reverse := by
        have ho := hbs.own
        rw [htk] at ho
        have := rules_read (rs := rs.reverse) (v := .slice va p.length vc) (W := wr) (B := w5.heap.size + 1) (by rw [List.length_reverse, HRL.out]; exact ho) (fun q hq => by
          obtain ⟨k, hk⟩ := List.getElem?_of_mem (List.mem_reverse.1 hq)
          exact (HRV.out k q hk).2.2.below hbs.low)
        rw [List.map_reverse, HRS.out] at this
        exact this
      have HBK := Lib.hid hbk
      have HMB := Lib.hid ((match_reverse p o l).trans HMA.out)
      have HL6 := Lib.hid (HL5.out.below hbs.low)
      have HAV6 := Lib.hid (HAV.out.below hbs.low)
      have HB6 : Hid (Below w.heap.size w wr) := HB5.out.trans (hbs.low.mono HB5.out.size)
      have HLo := Lib.hid hbs.low
      have hx0 : wr.cell? ⟨w5.heap.size, 0, none⟩ = some (.slice va p.length vc) := (cell_of_row wr _ 0 _ _ _ hbs.box).trans rfl
      have HR0 := Lib.hid hr0
      clear htk hbk hbs hr0 hr hlt hj e
      go_wp2_with fail
      refine (mcall HMB.out (.slice va p.length vc) (.slice la l.length lc) wr HBK.out HL6.out).mono ?_
      rintro e w6 ⟨bv, rfl, hbv, hb6⟩
      have HBV := Lib.hid hbv
      obtain ⟨ba, bc, rfl, z1, z2, z3, z4⟩ := hbv
      clear z1 z2 z3 z4
      have HEQ := Lib.hid (fun W h1 h2 => f17_any (.slice aa al.length ac) (.slice ba al.length bc) al al W h1 h2)
      rw [decide_eq_true rfl] at HEQ
      have HLp := Lib.hid (HLo.out.trans (hb6.mono HLo.out.size))
      clear hb6 hx0
      go_wp2_with fail
      refine (HEQ.out w6 (HAV.out.below HLp.out) HBV.out).mono ?_
      rintro e w7 ⟨rfl, hb7⟩
      have HLq := Lib.hid (HLp.out.trans (hb7.mono HLp.out.size))
      clear hb7 HBV HEQ
      go_wp2_with fail
      refine (f11_any zv n2 w7 (HZ.out.below (HB5.out.trans (HLq.out.mono HB5.out.size)))).mono ?_
      rintro e w8 ⟨uv, u, rfl, hu, hmu, hb8⟩
      obtain ⟨ua, uc, rfl⟩ := rules_slice hu
      have b9' : Below w8.heap.size w8 (w8.alloc (.cells #[.slice ua u.length uc] 24)) := (Below.refl _ _).alloc (Nat.le_refl _) _
      have HU := Lib.hid (hu.below b9')
      have hlr : Below w5.heap.size w5 (w8.alloc (.cells #[.slice ua u.length uc] 24)) := HLq.out.trans ((hb8.trans (b9'.mono hb8.size)).mono HLq.out.size)
      have HLR := Lib.hid hlr
      have HMU := Lib.hid hmu
      go_wp2_with fail
      obtain ⟨b19, hb19⟩ : ∃ b, b = w8.heap.size := ⟨_, rfl⟩
      obtain ⟨ws, hws⟩ : ∃ W, W = w8.alloc (.cells #[.slice ua u.length uc] 24) := ⟨_, rfl⟩
      have u0 : ws.cell? ⟨b19, 0, none⟩ = some (.slice ua u.length uc) := by rw [hws, hb19]; go_simp
      rw [← hws] at HU HLR hlr
      rw [← hws, ← hb19]
      obtain ⟨ub, uo, us, hus, huv, hu0⟩ := rules_rs HU.out
      have hul : us.length = u.length := by rw [← hus, List.length_map]
      have hu8 : u.length ≤ 8 := HMU.out.1
      have HUS := Lib.hid hus
      have HUV := Lib.hid huv
      have HU0 := Lib.hid hu0
      have HUL := Lib.hid hul
      have U0 := Lib.hid u0
      clear hws hb19 hu hmu hb8 b9' hlr hus huv hu0 hul u0 HBK HMB HL6 HAV6 HB6 HLo HLp HLq HST p5
      go_loopw [20] (fun vi wr => ∃ k : Nat, vi = .int .i64 k ∧ k ≤ u.length ∧ Below ws.heap.size ws wr) (fun vi _ => u.length - (intOf vi).toNat)
      case atStart => exact ⟨0, rfl, by omega, Below.refl _ _⟩
      case round =>
        obtain ⟨k, rfl, hk, hb⟩ := hrel
        have HBR := Lib.hid hb
        have u1 : wr.cell? ⟨b19, 0, none⟩ = some (.slice ua u.length uc) := keeps_of_below hb _ _ U0.out
        clear hb
        by_cases hlt : k < u.length
        · obtain rfl := HU0.out (by omega)
          obtain ⟨q, hq⟩ := get_some us k (by have := HUL.out; omega)
          obtain ⟨c0, c1, ci⟩ := HUV.out k q hq
          have c0 := keeps_of_below HBR.out _ _ c0
          have c1 := keeps_of_below HBR.out _ _ c1
          have hqu : q.1 ∈ u := by rw [← HUS.out]; exact List.mem_map.2 ⟨q, List.mem_of_getElem? hq, rfl⟩
          have hmr := HMU.out.2 _ hqu
          have CI := Lib.hid ci
          obtain ⟨⟨qo, qi⟩, qv⟩ := q
          obtain ⟨ia, ic, rfl, i1, i2, i3⟩ : Items ws qv qi := ci
          unfold maxLen at i2
          simp only at c0 c1
          have HMR := Lib.hid hmr
          have k0 : (0 : Int) ≤ (k : Int) := by omega
          have k1 : (k : Int) < (u.length : Int) := by omega
          clear i3 hq hqu hmr
          go_wp2_with fail
          obtain ⟨o1, ho1, ho14, hne⟩ : ∃ o1 : Nat, ((o : Int) + 1) % 4 = (o1 : Int) ∧ o1 < 4 ∧ (o1 : Int) ≠ (o : Int) := ⟨(o + 1) % 4, by omega, by omega, by omega⟩
          rw [ho1]
          have bV : Below wr.heap.size wr (wr.alloc (.cells #[.int .i64 (o1 : Int), .slice ia qi.length ic] 55)) := (Below.refl _ _).alloc (Nat.le_refl _) _
          have v0 : (wr.alloc (.cells #[.int .i64 (o1 : Int), .slice ia qi.length ic] 55)).cell? ⟨wr.heap.size, 0, none⟩ = some (.int .i64 (o1 : Int)) := by go_simp
          have v1 : (wr.alloc (.cells #[.int .i64 (o1 : Int), .slice ia qi.length ic] 55)).cell? ⟨wr.heap.size, 1, none⟩ = some (.slice ia qi.length ic) := by go_simp
          have hbk : (wr.alloc (.cells #[.int .i64 (o1 : Int), .slice ia qi.length ic] 55)).heap[wr.heap.size]? = some (.cells #[.int .i64 (o1 : Int), .slice ia qi.length ic] 55 (0, 0)) := World.alloc_heap_new _ _
          have hVs : (wr.alloc (.cells #[.int .i64 (o1 : Int), .slice ia qi.length ic] 55)).heap.size = wr.heap.size + 1 := by simp
          obtain ⟨V, hV⟩ : ∃ V, V = wr.alloc (.cells #[.int .i64 (o1 : Int), .slice ia qi.length ic] 55) := ⟨_, rfl⟩
          rw [← hV] at bV v0 v1 hbk hVs ⊢
          obtain ⟨b21, hb21⟩ : ∃ b, b = wr.heap.size := ⟨_, rfl⟩
          rw [← hb21] at v0 v1 hbk hVs ⊢
          have h21 : ws.heap.size ≤ b21 := by rw [hb21]; exact HBR.out.size
          clear hb21
          have blo : Below w5.heap.size w5 V := HLR.out.trans ((HBR.out.trans (bV.mono HBR.out.size)).mono HLR.out.size)
          have bws : Below ws.heap.size ws V := HBR.out.trans (bV.mono HBR.out.size)
          have v9 : V.cell? ⟨b9, 0, none⟩ = some (.slice pa p.length pc) := keeps_of_below blo _ _ P5.out
          have HBV := Lib.hid bws
          have HVlo := Lib.hid blo
          have HRVV := Lib.hid (RVs.below HRV.out blo)
          have HCI := Lib.hid (CI.out.below bws)
          have HBK := Lib.hid hbk
          have h9 : b9 < V.heap.size := World.block_lt_of_cell? _ _ v9
          clear hV bV blo bws c0 c1 u1 hbk
          refine region24_wp _ _ _ _ _ _ _ _ _ _ rfl rfl rfl rfl rfl rfl rfl rfl rfl rfl rfl rfl rfl rfl rfl rfl rfl rfl rfl rfl rfl rfl rfl rfl rfl rfl rfl rfl rfl rfl rfl rfl rfl rfl rfl rfl rfl rfl rfl rfl rfl
            (by kernel_rfl) (by kernel_rfl) (by kernel_rfl) (by kernel_rfl) (by kernel_rfl) (by kernel_rfl) (by kernel_rfl) (fun _ _ d _ _ h => by cases d <;> exact h)
            _ (by first | exact of_decide_eq_true rfl | simp) V rs (((o1 : Int), qi), .slice ia qi.length ic) pa pc pb po p.length HRL.out HRVV.out HP0.out (by omega) b9 b21 rfl rfl v9 v0 v1 ⟨_, _, _, rfl⟩ ?_
          intro x0 x3 x5 x6 x7 bq w9 hb9 hown hltq hbq
          obtain ⟨g6, c6, rfl⟩ := ownsRow_succ hown
          have hq0 : w9.cell? ⟨bq, 0, none⟩ = some (.slice (some ⟨g6, 0, none⟩) (p.length + 1) c6) := (cell_of_row w9 _ 0 _ _ _ hbq).trans rfl
          have hrr : ruleB ((o1 : Int), qi) = true := mRule.rule ⟨four_nat ho14, HMR.out.2⟩
          have hrr2 : ruleB ((o : Int), qi) = true := mRule.rule ⟨four_nat ho4, HMR.out.2⟩
          have hpl : p.length < 24 := by omega
          have hmo := (match_other (r := ((o1 : Int), qi)) HG.out hrr hpl hne).trans HMA.out
          have hRS : ∀ W, Below ws.heap.size ws W → ∀ z : Int, W.ownsRow V.heap.size 55 2 (.slice (some ⟨g6, 0, none⟩) (p.length + 1) c6) (p.length + 1) (rvCells (rs ++ [((z, qi), .slice ia qi.length ic)])) → Rules W (.slice (some ⟨g6, 0, none⟩) (p.length + 1) c6) (p ++ [(z, qi)]) := fun W hW z ho => by
            have := rules_read (rs := rs ++ [((z, qi), .slice ia qi.length ic)]) (W := W) (B := V.heap.size) (by rw [List.length_append, List.length_singleton, HRL.out]; exact ho) (fun q hq => by
              rcases List.mem_append.1 hq with hq | hq
              · obtain ⟨k, hk⟩ := List.getElem?_of_mem hq
                exact (HRV.out k q hk).2.2.below (HLR.out.trans (hW.mono HLR.out.size))
              · obtain rfl : q = ((z, qi), .slice ia qi.length ic) := by simpa using hq
                exact CI.out.below hW)
            rw [List.map_append, HRS.out] at this
            exact this
          have HRSS := Lib.hid hRS
          have HQ9 := Lib.hid (hRS _ (HBV.out.trans (hb9.mono HBV.out.size)) _ hown)
          have HMO := Lib.hid hmo
          have HOWN := Lib.hid hown
          have HRR2 := Lib.hid hrr2
          have HB9 := Lib.hid hb9
          have HL9 := Lib.hid ((HL5.out.below HVlo.out).below hb9)
          have HBQ := Lib.hid hbq
          have hlg6 : V.heap.size ≤ g6 := (hown.lt g6 rfl).1
          clear hrr hrr2 hmo hRS hown hb9 hbq v9
          simp only [mk24, Act.put]
          go_wp2_with fail
          refine (mcall HMO.out _ _ w9 HQ9.out HL9.out).mono ?_
          rintro e wa ⟨dv, rfl, hdv, hba⟩
          have HDV := Lib.hid hdv
          obtain ⟨da, dc, rfl, z1, z2, z3, z4⟩ := hdv
          have HBa := Lib.hid (HB9.out.trans (hba.mono HB9.out.size))
          have HBab := Lib.hid hba
          have HEQ := Lib.hid (fun W h1 h2 => f17_any (.slice aa al.length ac) (.slice da al.length dc) al al W h1 h2)
          rw [decide_eq_true rfl] at HEQ
          clear z1 z2 z3 z4 hba
          go_wp2_with fail
          refine (HEQ.out wa (HAV.out.below (HVlo.out.trans (HBa.out.mono HVlo.out.size))) HDV.out).mono ?_
          rintro e wb ⟨rfl, hbb⟩
          have HBb := Lib.hid (HBa.out.trans (hbb.mono HBa.out.size))
          have hb9b : Below w9.heap.size w9 wb := HBab.out.trans (hbb.mono HBab.out.size)
          have hk21 : wb.heap[b21]? = some (.cells #[.int .i64 (o1 : Int), .slice ia qi.length ic] 55 (0, 0)) := (HBb.out.block b21 (heap_lt HBK.out)).trans HBK.out
          have hkq : wb.heap[bq]? = some (.cells #[.slice (some ⟨g6, 0, none⟩) (p.length + 1) c6] 24 (0, 0)) := (hb9b.block bq (heap_lt HBQ.out)).trans HBQ.out
          have hown := own_bel HOWN.out hb9b
          have s0 : wb.cell? ⟨b21, 0, none⟩ = some (.int .i64 (o1 : Int)) := (cell_of_row wb b21 0 _ _ _ hk21).trans rfl
          have sf : wb.frozen? ⟨b21, 0, none⟩ = false := frozen_of_row wb b21 0 _ _ hk21
          have h21V : b21 < V.heap.size := heap_lt HBK.out
          obtain ⟨wc, hwc⟩ : ∃ wc, wb.setCell ⟨b21, 0, none⟩ (.int .i64 (o : Int)) = wc := ⟨_, rfl⟩
          have hset : wb.grownBy wc (some b21) := by rw [← hwc]; exact grown_set (grownBel (Below.refl _ _) _) _ _
          have hown2 := grown_kept hown hset fun j hj => by have := (hown.lt j hj).1; simp; omega
          have t21 : wc.heap[b21]? = some (.cells #[.int .i64 (o : Int), .slice ia qi.length ic] 55 (0, 0)) := by
            rw [← hwc]
            show (wb.heap.modify b21 _)[b21]? = _
            have hlt := heap_lt hk21
            have hg' : wb.heap[b21] = .cells #[.int .i64 (o1 : Int), .slice ia qi.length ic] 55 (0, 0) := by simpa [Array.getElem?_eq_getElem hlt] using hk21
            rw [Array.getElem?_eq_getElem (by simpa using hlt), Array.getElem_modify_self, hg']
            rfl
          have tq : wc.heap[bq]? = some (.cells #[.slice (some ⟨g6, 0, none⟩) (p.length + 1) c6] 24 (0, 0)) := (hset.block bq (heap_lt hkq) (by simp; omega)).trans hkq
          have s1 : wc.cell? ⟨b21, 0, none⟩ = some (.int .i64 (o : Int)) := (cell_of_row wc b21 0 _ _ _ t21).trans rfl
          have s2 : wc.cell? ⟨b21, 1, none⟩ = some (.slice ia qi.length ic) := (cell_of_row wc b21 1 _ _ _ t21).trans rfl
          have sq : wc.cell? ⟨bq, 0, none⟩ = some (.slice (some ⟨g6, 0, none⟩) (p.length + 1) c6) := (cell_of_row wc bq 0 _ _ _ tq).trans rfl
          have HOWN2 := Lib.hid hown2
          have HBbw : Hid (Below ws.heap.size ws wb) := HBV.out.trans (HBb.out.mono HBV.out.size)
          have HBc : Hid (Below ws.heap.size ws wc) := by rw [← hwc]; exact HBbw.out.setCell (p := ⟨b21, 0, none⟩) h21 _
          have T21 := Lib.hid t21
          have TQ := Lib.hid tq
          have hcells := hown2.cells (g := g6) rfl
          have hpc0 : (0 : Int) ≤ (p.length : Int) := by omega
          have hr0' : wc.cell? ⟨g6, p.length * 2, none⟩ = some (.int .i64 (o1 : Int)) := by
            have := hcells (p.length * 2) (.int .i64 (o1 : Int)) (by rw [rvCells_snoc, List.getElem?_append_right (by rw [rvCells_len, HRL.out]; exact Nat.le_refl _), rvCells_len, HRL.out, Nat.sub_self]; rfl)
            rw [Addr.add_mid, Nat.zero_add] at this
            exact this
          have hr1' : wc.cell? ⟨g6, p.length * 2 + 1, none⟩ = some (.slice ia qi.length ic) := by
            have := hcells (p.length * 2 + 1) (.slice ia qi.length ic) (by rw [rvCells_snoc, List.getElem?_append_right (by rw [rvCells_len, HRL.out]; omega), rvCells_len, HRL.out, show p.length * 2 + 1 - p.length * 2 = 1 by omega]; rfl)
            rw [Addr.add_mid, Nat.zero_add] at this
            exact this
          have hfz : ∀ i, wc.frozen? ⟨g6, i, none⟩ = false := fun i => by
            rcases hown2.2 with ⟨e, _⟩ | ⟨g', cap', cur, e, _, hg, _⟩
            · cases e
            · obtain rfl : g6 = g' := (show g6 = g' ∧ c6 = cap' by simpa using e).1
              exact frozen_of_row wc g6 i _ _ hg
          have f0 := hfz (p.length * 2)
          have f1 := hfz (p.length * 2 + 1)
          have hne6 : g6 ≠ bq := fun e => block_apart hown2 tq (by rw [← e]; rfl)
          obtain ⟨wd, hwd⟩ : ∃ wd, (wc.setCell ⟨g6, p.length * 2, none⟩ (.int .i64 (o : Int))).setCell ⟨g6, p.length * 2 + 1, none⟩ (.slice ia qi.length ic) = wd := ⟨_, rfl⟩
          have hsd : wc.grownBy wd (some g6) := by rw [← hwd]; exact grown_set (grown_set (grownBel (Below.refl _ _) _) _ _) _ _
          have hown3 : wd.ownsRow V.heap.size 55 2 (.slice (some ⟨g6, 0, none⟩) (p.length + 1) c6) (p.length + 1) (rvCells (rs ++ [(((o : Int), qi), .slice ia qi.length ic)])) := by
            have hl0 : (rvCells (rs ++ [(((o1 : Int), qi), .slice ia qi.length ic)])).length = p.length * 2 + 2 := by rw [rvCells_len, List.length_append, List.length_singleton, HRL.out]; omega
            have h := own_set (own_set hown2 (p.length * 2) (.int .i64 (o : Int)) (by rw [hl0]; omega)) (p.length * 2 + 1) (.slice ia qi.length ic) (by rw [List.length_set, hl0]; omega)
            rw [hwd] at h
            have e : ((rvCells (rs ++ [(((o1 : Int), qi), Value.slice ia qi.length ic)])).set (p.length * 2) (.int .i64 (o : Int))).set (p.length * 2 + 1) (.slice ia qi.length ic) = rvCells (rs ++ [(((o : Int), qi), .slice ia qi.length ic)]) := by
              rw [rvCells_snoc, rvCells_snoc, List.set_append_right _ _ (by rw [rvCells_len, HRL.out]; exact Nat.le_refl _), List.set_append_right _ _ (by rw [rvCells_len, HRL.out]; omega), rvCells_len, HRL.out, Nat.sub_self, show p.length * 2 + 1 - p.length * 2 = 1 by omega]
              rfl
            rw [e] at h
            exact h
          have HBd : Hid (Below ws.heap.size ws wd) := HBc.out.grown hsd HBc.out.size (fun j e => by
            have e' : g6 = j := by simpa using e
            have := HBV.out.size
            omega)
          have sq2 : wd.cell? ⟨bq, 0, none⟩ = some (.slice (some ⟨g6, 0, none⟩) (p.length + 1) c6) := (cell_of_row wd bq 0 _ _ _ ((hsd.block bq (heap_lt tq) (fun e => hne6 (by simpa using e.symm))).trans tq)).trans rfl
          have HQd := Lib.hid (HRSS.out _ HBd.out _ hown3)
          obtain ⟨dl, de, hmd⟩ : ∃ dl de, matchF (p ++ [((o : Int), qi)]) o l = (dl, de) := ⟨_, _, rfl⟩
          have hmore : 0 < r → ae = 0 → de = 0 ∧ dl.length ≤ al.length := fun h0 h1 => by
            have := match_more (r := ((o : Int), qi)) HG.out HRR2.out hpl rfl (HR0.out h0) (by rw [HMA.out]; exact h1)
            rw [hmd, HMA.out] at this
            exact this
          have HMD := Lib.hid hmd
          have HMORE := Lib.hid hmore
          have HLd := Lib.hid (HL5.out.below (HLR.out.trans (HBd.out.mono HLR.out.size)))
          clear hmd hmore hsd hown3
          clear hbb hb9b hk21 hkq hown hset hown2 t21 tq hcells hfz
          go_wp2_with fail
          refine (mcall HMD.out _ _ wd HQd.out HLd.out).mono ?_
          rintro e we ⟨ev, rfl, hev, hbe⟩
          obtain ⟨ea, ec, rfl, z1, z2, z3, z4⟩ := hev
          have HBe := Lib.hid (HBd.out.trans (hbe.mono HBd.out.size))
          clear z1 z2 z3 z4 hbe
          rcases Nat.eq_zero_or_pos r with hr | hr
          · have hr' : ¬ 0 < r := by omega
            clear hr
            go_wp2_with fail
            exact ⟨⟨k + 1, by go_num, by omega, HBe.out⟩, by simp only [intOf]; omega⟩
          · rcases R1.out with rfl | rfl
            · obtain ⟨rfl, hle⟩ := HMORE.out hr rfl
              go_wp2_with fail
              exact ⟨⟨k + 1, by go_num, by omega, HBe.out⟩, by simp only [intOf]; omega⟩
            · go_wp2_with fail
              exact ⟨⟨k + 1, by go_num, by omega, HBe.out⟩, by simp only [intOf]; omega⟩
        · obtain rfl : k = u.length := by omega
          go_wp2_with fail
          go_ret
          exact ⟨rfl, HB5.out.trans ((HLR.out.trans (HBR.out.mono HLR.out.size)).mono HB5.out.size)⟩
end Go.Proofs.YteilaajjpjhijaaDoor
