/- A region that draws its order, with one call of a round (yield) among operations that leave a value each: held against the frame that they leave in the end. -/
import Derived.Test.YteilaajjpjhijaaDoorFin
import Derived.RangeFuncNested
import Derived.RangeFuncCalls
import Derived.RangeFuncLeaves
namespace Go.Proofs.YteilaajjpjhijaaDoor
open Go.RowKit PSpec
section
variable {F : Fence} {n : Nat} {P : Program} {ops : Array Oper} {Q : Exit → Act → World → Prop} {S : World → Prop}

def ckM (ops : Array Oper) (m h : Nat) (E : Nat → Bool) : Bool :=
  ops.size == m && decide (h < m) && Region.noSelect ops &&
  (List.range m).all (fun i => (dstOf ops i).isSome && (match ops[i]? with | some o => (match o.op with | .defer _ => false | _ => true) | none => false)) &&
  (List.range m).all (fun j => match ops[j]? with
    | some o => o.after.all (fun e => !Region.binds .any e || decide (e.on < j)) &&
        (List.range m).all (fun i => match dstOf ops i with
          | some d => !(o.looksAt ops).contains d || (decide (i ≠ j) && o.after.any (fun e => Region.binds .any e && e.on == i))
          | none => true) &&
        (j == h || E j || o.after.any (fun e => Region.binds .any e && (e.on == h || !E e.on)))
    | none => false)

structure CkM (ops : Array Oper) (m h : Nat) (E : Nat → Bool) : Prop where
  size : ops.size = m
  hlt : h < m
  sel : Region.noSelect ops = true
  dst : ∀ i, i < m → ∃ o d, ops[i]? = some o ∧ o.dst = some d ∧ ∀ c, o.op ≠ .defer c
  before : ∀ j o, j < m → ops[j]? = some o → ∀ e ∈ o.after, Region.binds .any e = true → e.on < j
  looks : ∀ j o i d, j < m → ops[j]? = some o → i < m → dstOf ops i = some d → d ∈ o.looksAt ops → ∃ e ∈ o.after, Region.binds .any e = true ∧ e.on = i
  late : ∀ j o, j < m → ops[j]? = some o → j ≠ h → E j = false → ∃ e ∈ o.after, Region.binds .any e = true ∧ (e.on = h ∨ E e.on = false)

theorem ckM_of {m h : Nat} {E : Nat → Bool} (hc : ckM ops m h E = true) : CkM ops m h E := by
  simp only [ckM, Bool.and_eq_true, beq_iff_eq, List.all_eq_true, List.mem_range, decide_eq_true_eq] at hc
  obtain ⟨⟨⟨⟨h1, h0⟩, h2⟩, h3⟩, h4⟩ := hc
  refine ⟨h1, h0, h2, fun i hi => ?_, fun j o hj ho e he hb => ?_, fun j o i d hj ho hi hd hl => ?_, fun j o hj ho hne hE => ?_⟩
  · obtain ⟨ha, hb⟩ := h3 i hi
    unfold dstOf at ha
    cases ho : ops[i]? with
    | none => simp [ho] at ha
    | some o =>
      rw [ho] at ha hb
      obtain ⟨d, hd⟩ := Option.isSome_iff_exists.1 ha
      refine ⟨o, d, rfl, by simpa using hd, fun c hc => ?_⟩
      simp [hc] at hb
  · have := h4 j hj
    simp only [ho, Bool.and_eq_true, Array.all_eq_true_iff_forall_mem, Bool.or_eq_true, Bool.not_eq_true', decide_eq_true_eq] at this
    exact (this.1.1 e he).resolve_left (by simp [hb])
  · have := h4 j hj
    simp only [ho, Bool.and_eq_true, List.all_eq_true, List.mem_range] at this
    have := this.1.2 i hi
    simp only [hd, Bool.or_eq_true, Bool.not_eq_true', Bool.and_eq_true] at this
    rcases this with h | h
    · simp at h; exact absurd hl h
    · obtain ⟨e, he, hb⟩ := Array.any_eq_true'.1 h.2
      simp only [Bool.and_eq_true, beq_iff_eq] at hb
      exact ⟨e, he, hb.1, hb.2⟩
  · have := h4 j hj
    simp only [ho, Bool.and_eq_true, Bool.or_eq_true, beq_iff_eq] at this
    rcases this.2 with (h | h) | h
    · exact absurd h hne
    · rw [hE] at h; cases h
    · obtain ⟨e, he, hb⟩ := Array.any_eq_true'.1 h
      simp only [Bool.and_eq_true, Bool.or_eq_true, beq_iff_eq, Bool.not_eq_true'] at hb
      exact ⟨e, he, hb.1, hb.2⟩

structure InvM (ops : Array Oper) (m h : Nat) (E : Nat → Bool) (aF : Act) (w0 : World) (S : World → Prop) (listed : Array Bool) (a : Act) (w : World) : Prop where
  lsize : listed.size = m
  size : a.tmps.size = aF.tmps.size
  defers : a.defers = aF.defers
  same : ∀ t, (∀ i, i < m → listed.getD i false = false → dstOf ops i ≠ some t) → a.tmps[t]? = aF.tmps[t]?
  first : listed.getD h false = false → w = w0
  then_ : listed.getD h false = true → S w
  late : ∀ i, i < m → i ≠ h → E i = false → listed.getD i false = true → listed.getD h false = true

def unM (m : Nat) (listed : Array Bool) : List Nat := (List.range m).filter fun i => !listed.getD i false
theorem unM_set {m i : Nat} {listed : Array Bool} (hs : listed.size = m) (hi : i < m) (h : listed.getD i false = false) : (unM m (listed.setIfInBounds i true)).length < (unM m listed).length := by
  have e : unM m (listed.setIfInBounds i true) = (unM m listed).filter (fun j => decide (j ≠ i)) := by
    unfold unM
    rw [List.filter_filter]
    refine List.filter_congr fun j hj => ?_
    by_cases hji : j = i
    · subst hji; simp [hs, hi]
    · rw [getD_set_ne false (Ne.symm hji)]; simp [hji]
  rw [e, List.length_filter_lt_length_iff_exists]
  exact ⟨i, List.mem_filter.2 ⟨List.mem_range.2 hi, by simp only [h]; rfl⟩, by simp⟩

/-- where nothing is ready all have come up -/
theorem all_listed {m : Nat} {listed : Array Bool} (hs : ops.size = m) (hl : listed.size = m) (hb : ∀ j o, j < m → ops[j]? = some o → ∀ e ∈ o.after, Region.binds .any e = true → e.on < j)
    (hr : Region.ready .any ops listed = []) : ∀ j, j < m → listed.getD j false = true := by
  intro j
  induction j using Nat.strongRecOn with
  | _ j ih =>
    intro hj
    cases hu : listed.getD j false with
    | true => rfl
    | false =>
      obtain ⟨o, ho⟩ : ∃ o, ops[j]? = some o := ⟨ops[j]'(by rw [hs]; exact hj), Array.getElem?_eq_getElem (by rw [hs]; exact hj)⟩
      have : j ∈ Region.ready .any ops listed := mem_ready.2 ⟨by rw [getD_tf (by rw [hl]; exact hj)]; exact hu, o, ho, fun e he hbb => ih e.on (hb j o hj ho e he hbb) (by have := hb j o hj ho e he hbb; omega)⟩
      rw [hr] at this; cases this

theorem mid_any {m h : Nat} {E : Nat → Bool} {aF : Act} {w0 : World} (hF : ∀ f, F.fn f) (hdp : F.depth = none) (ck : CkM ops m h E)
    (hl : ∀ i o, i < m → i ≠ h → ops[i]? = some o → LightAt P ops (if E i then fun _ => True else S) aF o)
    (hh : ∀ o, ops[h]? = some o → Region.wanted o (yielded ops aF.tmps) = true ∧ ∃ d v l f tmps assign body w', o.dst = some d ∧ aF.tmps[d]? = some v ∧
      (execOp aF.eval o).run P w0 = .ok (.round l f tmps assign body) w' ∧ RoundIn F (n - 1) P l f tmps assign body w' fun e w1 => e = .returned v ∧ S w1)
    (hQ : ∀ w, S w → Q .normal aF w) :
    ∀ (fuel : Nat) (listed : Array Bool) (a : Act) (w : World), InvM ops m h E aF w0 S listed a w → (unM m listed).length ≤ fuel → wpAnyIn F n P .any ops Q fuel listed a w := by
  have fin : ∀ (listed : Array Bool) (a : Act) (w : World), InvM ops m h E aF w0 S listed a w → Region.ready .any ops listed = [] → Q .normal a w := by
    intro listed a w inv hr
    have hall := all_listed ck.size inv.lsize ck.before hr
    have ht : a.tmps = aF.tmps := Array.ext_getElem? fun t => inv.same t fun k hk hku => by rw [hall k hk] at hku; cases hku
    have haF : a = aF := by
      cases a; cases aF
      simp only at ht
      have := inv.defers
      simp only at this
      subst ht; subst this; rfl
    subst haF
    exact hQ w (inv.then_ (hall h ck.hlt))
  intro fuel
  induction fuel with
  | zero =>
    intro listed a w inv hc
    have hr : Region.ready .any ops listed = [] := by
      cases hr : Region.ready .any ops listed with
      | nil => rfl
      | cons j l =>
        have hj : j ∈ Region.ready .any ops listed := by rw [hr]; simp
        obtain ⟨hju, oj, hoj, _⟩ := mem_ready.1 hj
        have hjm : j < m := by rw [← ck.size]; exact (Array.getElem?_eq_some_iff.1 hoj).1
        rw [getD_tf (by rw [inv.lsize]; exact hjm)] at hju
        have : j ∈ unM m listed := List.mem_filter.2 ⟨List.mem_range.2 hjm, by simp only [hju]; rfl⟩
        have := List.length_pos_of_mem this
        omega
    exact ⟨hr, fin _ _ _ inv hr⟩
  | succ fuel ih =>
    intro listed a w inv hc
    refine ⟨fun hr => fin _ _ _ inv hr, fun i hi => ?_⟩
    obtain ⟨hun, o, ho, hafter⟩ := mem_ready.1 hi
    have him : i < m := by rw [← ck.size]; exact (Array.getElem?_eq_some_iff.1 ho).1
    rw [getD_tf (by rw [inv.lsize]; exact him)] at hun
    have hlook : ∀ t, t ∈ o.looksAt ops → a.tmps[t]? = aF.tmps[t]? := fun t ht => inv.same t fun k hk hku hd => by
      obtain ⟨e, he, hb, hon⟩ := ck.looks i o k t him ho hk hd ht
      have := hafter e he hb
      rw [hon, hku] at this
      cases this
    have hsel : ∀ cs b, o.op ≠ .select cs b := fun cs b => Region.noSelect_spec ck.sel i o cs b ho
    obtain ⟨o', d, ho', hd, hdef⟩ := ck.dst i him
    rw [ho] at ho'; cases ho'
    have he := execOp_congr o hsel (eval_same (ops := ops) o hlook)
    have hw := wanted_same (ops := ops) o hlook
    have same' : ∀ v, aF.tmps[d]? = some v → ∀ t, (∀ k, k < m → (listed.setIfInBounds i true).getD k false = false → dstOf ops k ≠ some t) → (a.put o.dst v).tmps[t]? = aF.tmps[t]? := by
      intro v hv t ht
      by_cases etd : d = t
      · subst etd
        have hlt' : d < a.tmps.size := by
          rw [inv.size]; exact (Array.getElem?_eq_some_iff.1 hv).1
        simp [hd, Act.put, hlt', hv]
      · rw [hd]
        simp only [Act.put, Array.getElem?_setIfInBounds_ne etd]
        refine inv.same t fun k hk hku => ?_
        by_cases eki : k = i
        · subst eki; unfold dstOf; rw [ho]; simp [hd, etd]
        · exact ht k hk (by rw [getD_set_ne false (Ne.symm eki)]; exact hku)
    have hcount := unM_set inv.lsize him hun
    by_cases hih : i = h
    · subst hih
      obtain ⟨hw1, d', v, l, f, tmps, assign, body, w', hd', hv, hrun, hround⟩ := hh o ho
      rw [hd] at hd'; cases hd'
      have hw0 := inv.first hun
      subst hw0
      unfold wpOpIn
      simp only [ho]
      rw [← hw] at hw1
      rw [if_pos hw1]
      refine ⟨fun f _ => hF f, ?_⟩
      rw [Oper.semAt_eq _ _ _ hdef, he, hrun]
      refine ⟨(fun hx => by rw [hdp] at hx; cases hx), hround.mono ?_⟩
      rintro e w1 ⟨rfl, hS1⟩
      refine ih _ _ _ ⟨by simp [inv.lsize], by simp [hd, Act.put, inv.size], by simp [hd, Act.put, inv.defers], same' v hv, fun hx => ?_, fun _ => hS1, fun k hk hne hE hkl => ?_⟩ (by omega)
      · simp [inv.lsize, him] at hx
      · simp [inv.lsize, him]
    · obtain ⟨d', v, hd', hv, hy⟩ := hl i o him hih ho
      rw [hd] at hd'; cases hd'
      have inv' : InvM ops m h E aF w0 S (listed.setIfInBounds i true) (a.put o.dst v) w := by
        refine ⟨by simp [inv.lsize], by simp [hd, Act.put, inv.size], by simp [hd, Act.put, inv.defers], same' v hv, fun hx => ?_, fun hx => ?_, fun k hk hne hE hkl => ?_⟩
        · rw [getD_set_ne false hih] at hx; exact inv.first hx
        · rw [getD_set_ne false hih] at hx; exact inv.then_ hx
        · rw [getD_set_ne false hih]
          by_cases eki : k = i
          · subst eki
            obtain ⟨e, hea, hb, hon⟩ := ck.late k o hk ho hne hE
            have hel := hafter e hea hb
            rcases hon with hon | hon
            · rw [hon] at hel; exact hel
            · by_cases eh : e.on = h
              · rw [eh] at hel; exact hel
              · exact inv.late e.on (by have := ck.before k o hk ho e hea hb; omega) eh hon hel
          · rw [getD_set_ne false (Ne.symm eki)] at hkl
            exact inv.late k hk hne hE hkl
      have hSw : (if E i then fun _ => True else S) w := by
        cases hE : E i with
        | true => simp
        | false =>
          simp only [Bool.false_eq_true, if_false]
          obtain ⟨e, hea, hb, hon⟩ := ck.late i o him ho hih hE
          have hel := hafter e hea hb
          refine inv.then_ ?_
          rcases hon with hon | hon
          · rw [hon] at hel; exact hel
          · by_cases eh : e.on = h
            · rw [eh] at hel; exact hel
            · exact inv.late e.on (by have := ck.before i o him ho e hea hb; omega) eh hon hel
      have hnext := ih _ _ _ inv' (by omega)
      unfold wpOpIn
      simp only [ho]
      rcases hy with ⟨hw1, hr⟩ | ⟨hw1, rfl⟩
      · rw [← hw] at hw1
        rw [if_pos hw1]
        refine ⟨fun f _ => hF f, ?_⟩
        rw [Oper.semAt_eq _ _ _ hdef, he, hr w hSw]
        exact hnext
      · rw [← hw] at hw1
        rw [if_neg (by rw [hw1]; simp)]
        exact ⟨fun f _ => hF f, hnext⟩

theorem wpIn_region_mid {id : Nat} {a : Act} {w : World} (m h : Nat) (E : Nat → Bool) (aF : Act) (S : World → Prop) (hF : ∀ f, F.fn f) (hdp : F.depth = none) (hm : P.follows .mixedOrders = true) (hck : ckM ops m h E = true)
    (hsize : a.tmps.size = aF.tmps.size) (hdef : a.defers = aF.defers) (hsame : ∀ t, (∀ i, i < m → dstOf ops i ≠ some t) → a.tmps[t]? = aF.tmps[t]?)
    (hl : ∀ i o, i < m → i ≠ h → ops[i]? = some o → LightAt P ops (if E i then fun _ => True else S) aF o)
    (hh : ∀ o, ops[h]? = some o → Region.wanted o (yielded ops aF.tmps) = true ∧ ∃ d v l f tmps assign body w', o.dst = some d ∧ aF.tmps[d]? = some v ∧
      (execOp aF.eval o).run P w.drew = .ok (.round l f tmps assign body) w' ∧ RoundIn F (n - 1) P l f tmps assign body w' fun e w1 => e = .returned v ∧ S w1)
    (hQ : ∀ w, S w → Q .normal aF w) : (Code.region id ops true).wpIn F n P Q a w := by
  have ck := ckM_of hck
  refine wpIn_region_any hm (mid_any (w0 := w.drew) hF hdp ck hl hh hQ _ _ _ _ ⟨by simp [ck.size], hsize, hdef, fun t ht => hsame t fun i hi => ht i hi (getD_rep _ _), fun _ => rfl, fun hx => ?_, fun i _ _ _ hx => ?_⟩ ?_)
  · rw [getD_rep] at hx; cases hx
  · rw [getD_rep] at hx; cases hx
  · rw [ck.size]; unfold unM; exact Nat.le_trans (List.length_filter_le _ _) (by simp)

end
end Go.Proofs.YteilaajjpjhijaaDoor
