/- A drawn region (Reg) in which, behind its light operations, two others may come up in either order. -/
import Derived.Test.YteilaajjpjhijaaDoorW10
namespace Go.Proofs.YteilaajjpjhijaaDoor
open Go.RowKit PSpec
section
variable {P : Program} {ops : Array Oper} {Q : Exit → Act → World → Prop} {S : World → Prop}

def wpLts (P : Program) (ops : Array Oper) (S : World → Prop) (K : Act → World → Prop) : List Nat → Act → World → Prop
  | [], a, w => K a w
  | i :: r, a, w => ∃ o v, ops[i]? = some o ∧ YieldsIf P ops S o v a ∧ wpLts P ops S K r (a.put o.dst v) w
def wpPair (P : Program) (ops : Array Oper) (Q : Exit → Act → World → Prop) (S : World → Prop) (i j : Nat) (r : List (Nat × Bool)) (a : Act) (w : World) : Prop :=
  wpOp P ops Q i (fun a1 w1 => S w1 ∧ wpOp P ops Q j (fun a2 w2 => S w2 ∧ wpO P ops Q S r a2 w2) a1 w1) a w ∧
  wpOp P ops Q j (fun a1 w1 => S w1 ∧ wpOp P ops Q i (fun a2 w2 => S w2 ∧ wpO P ops Q S r a2 w2) a1 w1) a w

def okPair (ops : Array Oper) (i j : Nat) (r : List (Nat × Bool)) (listed : Array Bool) : Bool :=
  decide (Region.ready .any ops listed = [i, j]) &&
  (decide (Region.ready .any ops (listed.setIfInBounds i true) = [j]) && okO ops r ((listed.setIfInBounds i true).setIfInBounds j true)) &&
  (decide (Region.ready .any ops (listed.setIfInBounds j true) = [i]) && okO ops r ((listed.setIfInBounds j true).setIfInBounds i true))
def okLts (ops : Array Oper) (i j : Nat) (r : List (Nat × Bool)) : List Nat → Array Bool → Bool
  | [], listed => okPair ops i j r listed
  | k :: l, listed => (Region.ready .any ops listed).contains k && Region.free .any ops listed k && okLts ops i j r l (listed.setIfInBounds k true)

theorem wpAnyH_of_lts {i j : Nat} {r : List (Nat × Bool)} (hs : Region.noSelect ops = true) (hQ : ∀ c a d v w, Q (.panic c) (a.put d v) w → Q (.panic c) a w) :
    ∀ (l : List Nat) (listed : Array Bool) (a : Act) (w : World), okLts ops i j r l listed = true → S w → wpLts P ops S (wpPair P ops Q S i j r) l a w →
      wpAnyH P .any ops Q S (l.length + (r.length + 2)) listed a w := by
  intro l
  induction l with
  | nil =>
    intro listed a w hok _ h
    simp only [okLts, okPair, Bool.and_eq_true, decide_eq_true_eq] at hok
    obtain ⟨⟨h0, h1, h2⟩, h3, h4⟩ := hok
    rw [List.length_nil, Nat.zero_add]
    refine wpAnyH_all h0 (by simp) ?_
    intro k hk
    rcases List.mem_cons.1 hk with rfl | hk
    · refine wpOp_mono (fun a1 w1 h' => ⟨h'.1, wpAnyH_all h1 (by simp) fun k2 hk2 => ?_⟩) h.1
      obtain rfl : k2 = j := by simpa using hk2
      exact wpOp_mono (fun a2 w2 h'' => ⟨h''.1, wpAnyH_of_wpO hs hQ r _ _ _ h2 h''.1 h''.2⟩) h'.2
    · obtain rfl : k = j := by simpa using hk
      refine wpOp_mono (fun a1 w1 h' => ⟨h'.1, wpAnyH_all h3 (by simp) fun k2 hk2 => ?_⟩) h.2
      obtain rfl : k2 = i := by simpa using hk2
      exact wpOp_mono (fun a2 w2 h'' => ⟨h''.1, wpAnyH_of_wpO hs hQ r _ _ _ h4 h''.1 h''.2⟩) h'.2
  | cons k l ih =>
    intro listed a w hok hS h
    simp only [okLts, Bool.and_eq_true] at hok
    obtain ⟨o, v, hi, hy, h⟩ := h
    rw [List.length_cons, show l.length + 1 + (r.length + 2) = (l.length + (r.length + 2)) + 1 by omega]
    exact wpAnyH_take hi hs hok.1.2 hok.1.1 (fun c a w => hQ c a _ v w) hy hS (ih _ _ _ hok.2 hS h)

theorem wp_region_pair {id : Nat} {a : Act} {w : World} (l : List Nat) (i j : Nat) (r : List (Nat × Bool)) (S : World → Prop) (hm : P.follows .mixedOrders = true) (hs : Region.noSelect ops = true)
    (hn : l.length + (r.length + 2) = ops.size) (hok : okLts ops i j r l (Array.replicate ops.size false) = true)
    (hQ : ∀ c a d v w, Q (.panic c) (a.put d v) w → Q (.panic c) a w) (hS : S w.drew) (h : wpLts P ops S (wpPair P ops Q S i j r) l a w.drew) : (Code.region id ops true).wp P Q a w :=
  wp_region_held (S := S) hm (by rw [← hn]; rw [← hn] at hok; exact wpAnyH_of_lts hs hQ l _ a _ hok hS h)

theorem wpLts_light {K : Act → World → Prop} {i : Nat} {r : List Nat} {a : Act} {w : World} (o : Oper) (hi : ops[i]? = some o) (hw : Region.wanted o (yielded ops a.tmps) = true) (v : Value)
    (hv : ∀ w, S w → (execOp a.eval o).run P w = .ok (.value v) w) (h : wpLts P ops S K r (a.put o.dst v) w) : wpLts P ops S K (i :: r) a w :=
  ⟨o, v, hi, .inl ⟨hw, hv⟩, h⟩
/-- both orders, where the second of the two reads what it would have read before the first -/
theorem wpPair_of {i j : Nat} {r : List (Nat × Bool)} {a : Act} {w : World} (oi oj : Oper) (hi : ops[i]? = some oi) (hj : ops[j]? = some oj) (ui uj : Value) (di dj : Tmp) (hdi : oi.dst = some di) (hdj : oj.dst = some dj) (hne : di ≠ dj)
    (hgi : oi.guard = none) (hgj : oj.guard = none) (hs : Region.noSelect ops = true) (hli : (oi.looksAt ops).contains dj = false) (hlj : (oj.looksAt ops).contains di = false) (w' : World)
    (hri : (execOp a.eval oi).run P w = .ok (.value ui) w) (hri' : (execOp a.eval oi).run P w' = .ok (.value ui) w')
    (hrj : (execOp a.eval oj).run P w = .ok (.value uj) w')
    (hS : S w) (hS' : S w') (h : wpO P ops Q S r ((a.put oi.dst ui).put oj.dst uj) w') : wpPair P ops Q S i j r a w := by
  have wn : ∀ (o : Oper) (y : Nat → Option Bool), o.guard = none → Region.wanted o y = true := fun o y hg => by simp [Region.wanted, hg]
  have ex : ∀ (k : Nat) (o : Oper) (d : Tmp) (v : Value), ops[k]? = some o → (o.looksAt ops).contains d = false → execOp (a.put (some d) v).eval o = execOp a.eval o := fun k o d v ho hl =>
    execOp_congr o (fun cs b => Region.noSelect_spec hs k o cs b ho) (eval_same (ops := ops) o fun t ht => by
      have : t ≠ d := by rintro rfl; simp at hl; exact hl ht
      simp [Act.put, Array.getElem?_setIfInBounds_ne (Ne.symm this)])
  have hcomm : ((a.put oj.dst uj).put oi.dst ui) = ((a.put oi.dst ui).put oj.dst uj) := by
    rw [hdi, hdj]
    simp only [Act.put]
    congr 1
    exact Array.setIfInBounds_comm _ _ (Ne.symm hne)
  constructor
  · refine wpOp_step hi fun K hK => ?_
    rw [if_pos (wn _ _ hgi)]
    unfold Oper.wp
    rw [hri]
    refine hK _ _ ⟨hS, wpOp_step hj fun K' hK' => ?_⟩
    rw [if_pos (wn _ _ hgj)]
    unfold Oper.wp
    rw [hdi, ex j oj di ui hj hlj, hrj]
    rw [hdi] at h
    exact hK' _ _ ⟨hS', h⟩
  · refine wpOp_step hj fun K hK => ?_
    rw [if_pos (wn _ _ hgj)]
    unfold Oper.wp
    rw [hrj]
    refine hK _ _ ⟨hS', wpOp_step hi fun K' hK' => ?_⟩
    rw [if_pos (wn _ _ hgi)]
    unfold Oper.wp
    rw [hdj, ex i oi dj uj hi hli, hri']
    refine hK' _ _ ⟨hS', ?_⟩
    rw [hdj] at hcomm
    rw [hcomm]
    rw [hdj] at h
    exact h
end

section
variable {P : Program} {ops : Array Oper} {Q : Exit → Act → World → Prop} {S : World → Prop}
/-- append onto a row of the call's own, as the next operation -/
theorem wpO_append {i : Nat} {r : List (Nat × Bool)} {a : Act} {w : World} (o : Oper) (hi : ops[i]? = some o) (hgd : o.guard = none) (s x : Operand) (t : TypeId)
    (ho : o.op = .call { callee := .builtin .append, args := #[s, x], argTypes := #[t, t] })
    (base : Nat) (e : TypeId) (ii : TypeInfo) (z : Value) (size bytes : Nat) (ht : P.underlying t = some (.slice e)) (hii : P.info? e = some ii) (hz : ii.zero = some z)
    (hsize : ii.size = size) (hby : ii.bytes = bytes) (hzs : z.cells.size = size) (hsz : 0 < size)
    (v : Value) (n : Nat) (xs : List Value) (hs : a.eval s = v) (hown : w.ownsRow base e size v n xs)
    (ad : Addr) (m c : Nat) (news : List Value) (hx : a.eval x = .slice (some ad) m c) (hl : news.length = m * size) (hnews : ∀ j u, news[j]? = some u → w.cell? (ad.add j) = some u) (h1 : ∀ u ∈ news, u.oneCell' = true)
    (h63 : n + m ≤ maxLen) (hbytes : (n + m) * bytes ≤ 140737488355328) (hbase : base ≤ w.heap.size)
    (h : ∀ v' w', w'.ownsRow base e size v' (n + m) (xs ++ news) → w.grownBy w' v.ownBlock → (v'.ownBlock = v.ownBlock ∨ v'.ownBlock = some w.heap.size) → S w' ∧ wpO P ops Q S r (a.put o.dst v') w') :
    wpO P ops Q S ((i, false) :: r) a w :=
  wpO_heavy o hi (by simp [Region.wanted, hgd]) fun K' hK => by
    obtain ⟨v', w', hr, h2, h3, _, h5⟩ := run_append_own_at (P := P) w base t o.type e ii z size bytes ht hii hz hsize hby hzs hsz v n xs hown ad m c news hl hnews h1 h63 hbytes hbase
    unfold Oper.wp execOp
    simp only [ho, resolve, invoke, builtin, Sem.run_bind, Sem.run_pure, Result.andThen_ok, List.map_toArray, List.map_cons, List.map_nil, hs, hx, hr]
    exact hK _ _ (h v' w' h2 h3 h5)
/-- an operation that writes memory in a known way, as the next one -/
theorem wpO_skipH {i : Nat} {r : List (Nat × Bool)} {a : Act} {w : World} (o : Oper) (hi : ops[i]? = some o) (hgd : o.guard = none) (w' : World)
    (hr : (execOp a.eval o).run P w = .ok .skip w') (h : S w' ∧ wpO P ops Q S r (a.put o.dst undef) w') : wpO P ops Q S ((i, false) :: r) a w :=
  wpO_heavy o hi (by simp [Region.wanted, hgd]) fun K' hK => by
    unfold Oper.wp
    rw [hr]
    exact hK _ _ h
end
end Go.Proofs.YteilaajjpjhijaaDoor
