/- A region that draws its order and whose operations but the last one leave a value each and the world alone: held against the frame that they leave in the end. Inside a fence, in a round or outside. -/
import Derived.Test.YteilaajjpjhijaaDoorReg
import Derived.OrdersIn
namespace Go.Proofs.YteilaajjpjhijaaDoor
open Go.RowKit PSpec
section
variable {F : Fence} {n : Nat} {P : Program} {ops : Array Oper} {Q : Exit → Act → World → Prop} {S : World → Prop}

def dstOf (ops : Array Oper) (i : Nat) : Option Tmp := (ops[i]?).bind (·.dst)
/-- the check of a region of m operations and a last one -/
def ckF (ops : Array Oper) (m : Nat) : Bool :=
  ops.size == m + 1 && Region.noSelect ops &&
  (List.range m).all (fun i => (dstOf ops i).isSome && (match ops[i]? with | some o => (match o.op with | .defer _ => false | _ => true) | none => false)) &&
  (List.range (m + 1)).all (fun j => match ops[j]? with
    | some o => o.after.all (fun e => !Region.binds .any e || decide (e.on < j)) &&
        (List.range m).all (fun i => match dstOf ops i with
          | some d => !(o.looksAt ops).contains d || (decide (i ≠ j) && o.after.any (fun e => Region.binds .any e && e.on == i))
          | none => true)
    | none => false) &&
  (match ops[m]? with | some o => (List.range m).all (fun i => o.after.any (fun e => Region.binds .any e && (e.on == i || (match ops[e.on]? with | some o' => o'.after.any (fun e' => Region.binds .any e' && e'.on == i) | none => false)))) | none => false)

structure CkF (ops : Array Oper) (m : Nat) : Prop where
  size : ops.size = m + 1
  sel : Region.noSelect ops = true
  dst : ∀ i, i < m → ∃ o d, ops[i]? = some o ∧ o.dst = some d ∧ ∀ c, o.op ≠ .defer c
  before : ∀ j o, j < m + 1 → ops[j]? = some o → ∀ e ∈ o.after, Region.binds .any e = true → e.on < j
  looks : ∀ j o i d, j < m + 1 → ops[j]? = some o → i < m → dstOf ops i = some d → d ∈ o.looksAt ops → ∃ e ∈ o.after, Region.binds .any e = true ∧ e.on = i
  last : ∀ o, ops[m]? = some o → ∀ i, i < m → ∃ e ∈ o.after, Region.binds .any e = true ∧ (e.on = i ∨ ∃ o', ops[e.on]? = some o' ∧ ∃ e' ∈ o'.after, Region.binds .any e' = true ∧ e'.on = i)

theorem ckF_of {m : Nat} (h : ckF ops m = true) : CkF ops m := by
  simp only [ckF, Bool.and_eq_true, beq_iff_eq, List.all_eq_true, List.mem_range] at h
  obtain ⟨⟨⟨⟨h1, h2⟩, h3⟩, h4⟩, h5⟩ := h
  refine ⟨h1, h2, fun i hi => ?_, fun j o hj ho e he hb => ?_, fun j o i d hj ho hi hd hl => ?_, fun o ho i hi => ?_⟩
  · obtain ⟨ha, hb⟩ := h3 i hi
    unfold dstOf at ha
    cases ho : ops[i]? with
    | none => simp [ho] at ha
    | some o =>
      rw [ho] at ha hb
      obtain ⟨d, hd⟩ := Option.isSome_iff_exists.1 ha
      refine ⟨o, d, rfl, by simpa using hd, fun c hc => ?_⟩
      simp [hc] at hb
  · have := h4 j hj
    simp only [ho, Bool.and_eq_true, Array.all_eq_true_iff_forall_mem, Bool.or_eq_true, Bool.not_eq_true', decide_eq_true_eq] at this
    exact (this.1 e he).resolve_left (by simp [hb])
  · have := h4 j hj
    simp only [ho, Bool.and_eq_true, List.all_eq_true, List.mem_range] at this
    have := this.2 i hi
    simp only [hd, Bool.or_eq_true, Bool.not_eq_true', Bool.and_eq_true] at this
    rcases this with h | h
    · simp at h; exact absurd hl h
    · obtain ⟨e, he, hb⟩ := Array.any_eq_true'.1 h.2
      simp only [Bool.and_eq_true, beq_iff_eq] at hb
      exact ⟨e, he, hb.1, hb.2⟩
  · simp only [ho, List.all_eq_true, List.mem_range] at h5
    obtain ⟨e, he, hb⟩ := Array.any_eq_true'.1 (h5 i hi)
    simp only [Bool.and_eq_true, Bool.or_eq_true, beq_iff_eq] at hb
    refine ⟨e, he, hb.1, hb.2.imp id fun h => ?_⟩
    cases ho' : ops[e.on]? with
    | none => simp [ho'] at h
    | some o' =>
      rw [ho'] at h
      obtain ⟨e', he', hb'⟩ := Array.any_eq_true'.1 h
      simp only [Bool.and_eq_true, beq_iff_eq] at hb'
      exact ⟨o', rfl, e', he', hb'.1, hb'.2⟩

theorem eval_same {a b : Act} (o : Oper) (h : ∀ t, t ∈ o.looksAt ops → a.tmps[t]? = b.tmps[t]?) : ∀ x ∈ o.op.operands, a.eval x = b.eval x := by
  intro x hx
  cases x with
  | tmp t =>
    have : t ∈ o.looksAt ops := by
      unfold Oper.looksAt
      refine List.mem_append.2 (.inl (List.mem_filterMap.2 ⟨.tmp t, Array.mem_toList_iff.2 hx, rfl⟩))
    simp [Act.eval, h t this]
  | _ => rfl
theorem wanted_same {a b : Act} (o : Oper) (h : ∀ t, t ∈ o.looksAt ops → a.tmps[t]? = b.tmps[t]?) :
    Region.wanted o (yielded ops a.tmps) = Region.wanted o (yielded ops b.tmps) := by
  unfold Region.wanted
  cases hg : o.guard with
  | none => rfl
  | some gw =>
    obtain ⟨g, want⟩ := gw
    have hy : yielded ops a.tmps g = yielded ops b.tmps g := by
      unfold yielded
      cases ht : (ops[g]?).bind (·.dst) with
      | none => rfl
      | some t =>
        have : t ∈ o.looksAt ops := by
          unfold Oper.looksAt
          refine List.mem_append.2 (.inr ?_)
          rw [hg]
          show t ∈ ((ops[g]?).bind (·.dst)).toList
          rw [ht]; simp
        simp only [Option.bind_some, h t this]
    simp only [hy]

/-- in the final frame aF the operation leaves what aF holds -/
def LightAt (P : Program) (ops : Array Oper) (S : World → Prop) (aF : Act) (o : Oper) : Prop :=
  ∃ d v, o.dst = some d ∧ aF.tmps[d]? = some v ∧
    ((Region.wanted o (yielded ops aF.tmps) = true ∧ ∀ w, S w → (execOp aF.eval o).run P w = .ok (.value v) w) ∨ (Region.wanted o (yielded ops aF.tmps) = false ∧ v = undef))

structure InvF (ops : Array Oper) (m : Nat) (aF : Act) (listed : Array Bool) (a : Act) : Prop where
  lsize : listed.size = m + 1
  size : a.tmps.size = aF.tmps.size
  defers : a.defers = aF.defers
  same : ∀ t, (∀ i, i < m → listed.getD i false = false → dstOf ops i ≠ some t) → a.tmps[t]? = aF.tmps[t]?
  notLast : listed.getD m false = false
  closed : ∀ j o, listed.getD j false = true → ops[j]? = some o → ∀ e ∈ o.after, Region.binds .any e = true → listed.getD e.on false = true

def unl (m : Nat) (listed : Array Bool) : List Nat := (List.range (m + 1)).filter fun i => !listed.getD i false
theorem unl_set {m i : Nat} {listed : Array Bool} (hs : listed.size = m + 1) (hi : i < m + 1) (h : listed.getD i false = false) : (unl m (listed.setIfInBounds i true)).length < (unl m listed).length := by
  have e : unl m (listed.setIfInBounds i true) = (unl m listed).filter (fun j => decide (j ≠ i)) := by
    unfold unl
    rw [List.filter_filter]
    refine List.filter_congr fun j hj => ?_
    by_cases hji : j = i
    · subst hji; simp [hs, hi]
    · rw [getD_set_ne false (Ne.symm hji)]; simp [hji]
  rw [e, List.length_filter_lt_length_iff_exists]
  exact ⟨i, List.mem_filter.2 ⟨List.mem_range.2 hi, by simp only [h]; rfl⟩, by simp⟩

theorem getD_rep (n i : Nat) : (Array.replicate n false).getD i false = false := by
  by_cases h : i < n <;> simp [h]
theorem getD_tf {listed : Array Bool} {i : Nat} (hi : i < listed.size) : listed.getD i true = listed.getD i false := by
  simp [hi]

theorem InvF.ready {m : Nat} {aF : Act} {listed : Array Bool} {a : Act} (ck : CkF ops m) (inv : InvF ops m aF listed a) : Region.ready .any ops listed ≠ [] := by
  -- the least one that has not come up
  have hex : ∃ j, j < m + 1 ∧ listed.getD j false = false ∧ ∀ k, k < j → listed.getD k false = true := by
    have H : ∀ j, (∀ k, k < j → listed.getD k false = true) ∨ ∃ j, j < m + 1 ∧ listed.getD j false = false ∧ ∀ k, k < j → listed.getD k false = true := by
      intro j
      induction j with
      | zero => exact .inl fun k hk => absurd hk (Nat.not_lt_zero _)
      | succ j ih =>
        rcases ih with ih | ih
        · cases hj : listed.getD j false with
          | true =>
            refine .inl fun k hk => ?_
            by_cases e : k = j
            · subst e; exact hj
            · exact ih k (by omega)
          | false =>
            refine .inr ⟨j, ?_, hj, ih⟩
            rcases Nat.lt_or_ge j (m + 1) with h | h
            · exact h
            · have := ih m (by omega); rw [inv.notLast] at this; cases this
        · exact .inr ih
    rcases H (m + 1) with h | h
    · have := h m (by omega); rw [inv.notLast] at this; cases this
    · exact h
  obtain ⟨j, hj, hun, hall⟩ := hex
  obtain ⟨o, ho⟩ : ∃ o, ops[j]? = some o := ⟨ops[j]'(by rw [ck.size]; exact hj), Array.getElem?_eq_getElem (by rw [ck.size]; exact hj)⟩
  have : j ∈ Region.ready .any ops listed := mem_ready.2 ⟨by rw [getD_tf (by rw [inv.lsize]; exact hj)]; exact hun, o, ho, fun e he hb => hall e.on (ck.before j o hj ho e he hb)⟩
  intro h; rw [h] at this; cases this

theorem fin_any {m : Nat} {aF : Act} {w : World} (hF : ∀ f, F.fn f) (ck : CkF ops m) (hl : ∀ i o, i < m → ops[i]? = some o → LightAt P ops S aF o) (hS : S w)
    (hlast : ∀ K : Act → World → Prop, (∀ a w, Q .normal a w → K a w) → wpOpIn F n P ops Q m K aF w) :
    ∀ (fuel : Nat) (listed : Array Bool) (a : Act), InvF ops m aF listed a → (unl m listed).length ≤ fuel → wpAnyIn F n P .any ops Q fuel listed a w := by
  intro fuel
  induction fuel with
  | zero =>
    intro listed a inv hc
    have : m ∈ unl m listed := List.mem_filter.2 ⟨List.mem_range.2 (by omega), by simp only [inv.notLast]; rfl⟩
    have := List.length_pos_of_mem this
    omega
  | succ fuel ih =>
    intro listed a inv hc
    refine ⟨fun h => absurd h (inv.ready ck), fun i hi => ?_⟩
    obtain ⟨hun, o, ho, hafter⟩ := mem_ready.1 hi
    have him : i < m + 1 := by rw [← ck.size]; exact (Array.getElem?_eq_some_iff.1 ho).1
    rw [getD_tf (by rw [inv.lsize]; exact him)] at hun
    by_cases hlt : i < m
    · -- a light one
      have hlook : ∀ t, t ∈ o.looksAt ops → a.tmps[t]? = aF.tmps[t]? := fun t ht => inv.same t fun k hk hku hd => by
        obtain ⟨e, he, hb, hon⟩ := ck.looks i o k t him ho hk hd ht
        have := hafter e he hb
        rw [hon, hku] at this
        cases this
      have hsel : ∀ cs b, o.op ≠ .select cs b := fun cs b => Region.noSelect_spec ck.sel i o cs b ho
      obtain ⟨o', d, ho', hd, hdef⟩ := ck.dst i hlt
      rw [ho] at ho'; cases ho'
      obtain ⟨d', v, hd', hv, hy⟩ := hl i o hlt ho
      rw [hd] at hd'; cases hd'
      have he := execOp_congr o hsel (eval_same (ops := ops) o hlook)
      have hw := wanted_same (ops := ops) o hlook
      have inv' : InvF ops m aF (listed.setIfInBounds i true) (a.put o.dst v) := by
        refine ⟨by simp [inv.lsize], by simp [hd, Act.put, inv.size], by simp [hd, Act.put, inv.defers], fun t ht => ?_, ?_, ?_⟩
        · by_cases etd : d = t
          · subst etd
            have hlt' : d < a.tmps.size := by
              rw [inv.size]; exact (Array.getElem?_eq_some_iff.1 hv).1
            simp [hd, Act.put, hlt', hv]
          · rw [hd]
            simp only [Act.put, Array.getElem?_setIfInBounds_ne etd]
            refine inv.same t fun k hk hku => ?_
            by_cases eki : k = i
            · subst eki; unfold dstOf; rw [ho]; simp [hd, etd]
            · exact ht k hk (by rw [getD_set_ne false (Ne.symm eki)]; exact hku)
        · rw [getD_set_ne false (by omega)]; exact inv.notLast
        · have up : ∀ k, listed.getD k false = true → (listed.setIfInBounds i true).getD k false = true := fun k hk => by
            by_cases e : k = i
            · subst e; rw [hun] at hk; cases hk
            · rw [getD_set_ne false (Ne.symm e)]; exact hk
          intro j o' hj ho' e he hb
          by_cases eji : j = i
          · subst eji; rw [ho] at ho'; cases ho'; exact up _ (hafter e he hb)
          · rw [getD_set_ne false (Ne.symm eji)] at hj
            exact up _ (inv.closed j o' hj ho' e he hb)
      have hnext := ih _ _ inv' (by have := unl_set inv.lsize him hun; omega)
      unfold wpOpIn
      simp only [ho]
      rcases hy with ⟨hw1, hr⟩ | ⟨hw1, rfl⟩
      · rw [← hw] at hw1
        rw [if_pos hw1]
        refine ⟨fun f _ => hF f, ?_⟩
        rw [Oper.semAt_eq _ _ _ hdef, he, hr w hS]
        exact hnext
      · rw [← hw] at hw1
        rw [if_neg (by rw [hw1]; simp)]
        exact ⟨fun f _ => hF f, hnext⟩
    · -- the last one: all the others have come up
      obtain rfl : i = m := by omega
      have hall : ∀ k, k < i → listed.getD k false = true := fun k hk => by
        obtain ⟨e, he, hb, hon⟩ := ck.last o ho k hk
        rcases hon with hon | ⟨o', ho', e', he', hb', hon⟩
        · rw [← hon]; exact hafter e he hb
        · rw [← hon]; exact inv.closed e.on o' (hafter e he hb) ho' e' he' hb'
      have haF : a = aF := by
        have ht : a.tmps = aF.tmps := Array.ext_getElem? fun t => inv.same t fun k hk hku => by rw [hall k hk] at hku; cases hku
        cases a; cases aF
        simp only at ht
        have := inv.defers
        simp only at this
        subst ht; subst this; rfl
      subst haF
      refine hlast _ fun a' w' hq => wpAnyIn_done ?_ hq fuel
      cases hr : Region.ready .any ops (listed.setIfInBounds i true) with
      | nil => rfl
      | cons j l =>
        have hj : j ∈ Region.ready .any ops (listed.setIfInBounds i true) := by rw [hr]; simp
        obtain ⟨hju, oj, hoj, _⟩ := mem_ready.1 hj
        have hjm : j < i + 1 := by rw [← ck.size]; exact (Array.getElem?_eq_some_iff.1 hoj).1
        exfalso
        by_cases e : i = j
        · subst e; simp [inv.lsize] at hju
        · rw [getD_set_ne true e, getD_tf (by rw [inv.lsize]; exact hjm), hall j (by omega)] at hju
          cases hju

/-- THE LAW. -/
theorem wpIn_region_fin {id : Nat} {a : Act} {w : World} (m : Nat) (aF : Act) (S : World → Prop) (hF : ∀ f, F.fn f) (hm : P.follows .mixedOrders = true) (hck : ckF ops m = true)
    (hsize : a.tmps.size = aF.tmps.size) (hdef : a.defers = aF.defers) (hsame : ∀ t, (∀ i, i < m → dstOf ops i ≠ some t) → a.tmps[t]? = aF.tmps[t]?)
    (hl : ∀ i o, i < m → ops[i]? = some o → LightAt P ops S aF o) (hS : S w.drew)
    (hlast : ∀ K : Act → World → Prop, (∀ a w, Q .normal a w → K a w) → wpOpIn F n P ops Q m K aF w.drew) : (Code.region id ops true).wpIn F n P Q a w := by
  have ck := ckF_of hck
  refine wpIn_region_any hm (fin_any hF ck hl hS hlast _ _ _ ⟨by simp [ck.size], hsize, hdef, fun t ht => hsame t fun i hi => ht i hi ?_, ?_, ?_⟩ ?_)
  · exact getD_rep _ _
  · exact getD_rep _ _
  · intro j o hj; rw [getD_rep] at hj; cases hj
  · rw [ck.size]; unfold unl; exact Nat.le_trans (List.length_filter_le _ _) (by simp)

end
end Go.Proofs.YteilaajjpjhijaaDoor
