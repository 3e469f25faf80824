/- A region that draws its order, walked in one given order: besides operations that yield a value, calls that leave the world as it is may be taken as early as they may come. -/
import Derived.Test.YteilaajjpjhijaaDoorReg2
namespace Go.Proofs.YteilaajjpjhijaaDoor
open Go.RowKit PSpec
section
variable {P : Program} {ops : Array Oper} {Q : Exit → Act → World → Prop} {S : World → Prop}

/-- the operation leaves v and the world as it is, by itself or by a call -/
def OneQ (P : Program) (x : Sem Next) (v : Value) (w : World) : Prop :=
  x.run P w = .ok (.value v) w ∨ ∃ f args, x.run P w = .ok (.enter f args) w ∧ Calls P f args w fun e w' => e = .returned v ∧ w = w'
def YieldsQ (P : Program) (ops : Array Oper) (S : World → Prop) (o : Oper) (v : Value) (a : Act) : Prop :=
  (Region.wanted o (yielded ops a.tmps) = true ∧ ∀ w, S w → OneQ P (execOp a.eval o) v w) ∨
  (Region.wanted o (yielded ops a.tmps) = false ∧ v = undef)

theorem YieldsQ.wpOp {i : Nat} {o : Oper} {v : Value} {a : Act} (hi : ops[i]? = some o) (hy : YieldsQ P ops S o v a)
    {K : Act → World → Prop} {w : World} (hS : S w) (h : K (a.put o.dst v) w) : wpOp P ops Q i K a w := by
  unfold Go.wpOp
  simp only [hi]
  rcases hy with ⟨hw, hv⟩ | ⟨hw, rfl⟩
  · simp only [hw, if_true, Oper.wp]
    rcases hv w hS with hv | ⟨f, args, hv, hc⟩
    · simp only [hv, Oper.upon]; exact .inl h
    · simp only [hv, Oper.upon]
      refine .inl (Calls.mono hc ?_)
      rintro e w' ⟨rfl, rfl⟩
      exact h
  · simp only [hw, Bool.false_eq_true, if_false]; exact h

theorem YieldsQ.of_same {o : Oper} {v : Value} {a a' : Act} (hy : YieldsQ P ops S o v a) (he : execOp a'.eval o = execOp a.eval o)
    (hw : Region.wanted o (yielded ops a'.tmps) = Region.wanted o (yielded ops a.tmps)) : YieldsQ P ops S o v a' := by
  unfold YieldsQ at *
  rw [he, hw]
  exact hy

theorem wpOp_putQ {j : Nat} {oi oj : Oper} {v : Value} (hj : ops[j]? = some oj) (hap : oi.apart ops oj = true)
    (hsi : ∀ cs b, oi.op ≠ .select cs b) (hsj : ∀ cs b, oj.op ≠ .select cs b)
    (hQ : ∀ c a w, Q (.panic c) (a.put oi.dst v) w → Q (.panic c) a w) {K : Act → World → Prop} {a : Act} {w : World}
    (hy : YieldsQ P ops S oi v a) (h : wpOp P ops Q j K (a.put oi.dst v) w) :
    wpOp P ops Q j (fun a' w' => YieldsQ P ops S oi v a' ∧ K (a'.put oi.dst v) w') a w := by
  obtain ⟨h1, h2, h3⟩ := Oper.apart_spec hap
  have keep : ∀ (a : Act), YieldsQ P ops S oi v a → ∀ u, YieldsQ P ops S oi v (a.put oj.dst u) := fun a hy u =>
    hy.of_same (execOp_put oi hsi a oj.dst u h3) (wanted_put oi a oj.dst u h3)
  have keepD : ∀ d, YieldsQ P ops S oi v { a with defers := d :: a.defers } := fun d => hy.of_same rfl rfl
  unfold wpOp at *
  simp only [hj] at *
  rw [wanted_put oj a oi.dst v h1] at h
  split
  · rename_i hw
    simp only [hw, if_true] at h
    rcases h with h | ⟨hasks, hlets⟩
    case inr => exact .inr ⟨by unfold Oper.asks at *; rw [execOp_put oj hsj a oi.dst v h1] at hasks; exact hasks, hlets⟩
    refine .inl ?_
    unfold Oper.wp at *
    rw [execOp_put oj hsj a oi.dst v h1] at h
    generalize (execOp a.eval oj).run P w = r at *
    cases r with
    | ok n w' =>
      cases n <;> simp only [Oper.upon] at h ⊢
      case value u => exact ⟨keep a hy u, by rw [← Act.put_comm a v u h2]; exact h⟩
      case skip => exact ⟨keep a hy _, by rw [← Act.put_comm a v undef h2]; exact h⟩
      case defer d =>
        refine ⟨keep _ (keepD d) _, ?_⟩
        rw [← Act.put_comm _ v undef h2, ← Act.put_defers]
        exact h
      case enter f args =>
        refine Calls.mono h fun e w'' he => ?_
        cases e with
        | returned u => exact ⟨keep a hy u, by rw [← Act.put_comm a v u h2]; exact he⟩
        | panicked c => exact hQ _ _ _ he
        | outgrown => exact he
      case row row args => exact Rows.mono h fun u w'' he => ⟨keep a hy u, by rw [← Act.put_comm a v u h2]; exact he⟩
    | halt x w' =>
      cases x <;> simp only [Oper.upon] at h ⊢
      case panic u => exact hQ _ _ _ h
  · rename_i hw
    simp only [hw] at h
    exact ⟨keep a hy _, by rw [← Act.put_comm a v undef h2]; exact h⟩

/-- whatever order is picked from here on; S holds behind every operation but number L -/
def wpAnyR (P : Program) (ops : Array Oper) (Q : Exit → Act → World → Prop) (S : World → Prop) (L : Nat) : Nat → Array Bool → Act → World → Prop
  | 0, listed, a, w => Region.ready .any ops listed = [] ∧ Q .normal a w
  | fuel + 1, listed, a, w =>
    (Region.ready .any ops listed = [] → Q .normal a w) ∧
    ∀ i ∈ Region.ready .any ops listed, wpOp P ops Q i (fun a' w' => (i = L ∨ S w') ∧ wpAnyR P ops Q S L fuel (listed.setIfInBounds i true) a' w') a w
theorem wpAny_of_R {L : Nat} : ∀ (fuel : Nat) (listed : Array Bool) (a : Act) (w : World), wpAnyR P ops Q S L fuel listed a w → wpAny P .any ops Q fuel listed a w
  | 0, _, _, _, h => h
  | fuel + 1, _, _, _, h => ⟨h.1, fun i hi => wpOp_mono (fun a' w' h' => wpAny_of_R fuel _ a' w' h'.2) (h.2 i hi)⟩
theorem wpAnyR_all {L : Nat} {rs : List Nat} {fuel : Nat} {listed : Array Bool} {a : Act} {w : World} (hr : Region.ready .any ops listed = rs) (hne : rs ≠ [])
    (h : ∀ i ∈ rs, wpOp P ops Q i (fun a' w' => (i = L ∨ S w') ∧ wpAnyR P ops Q S L fuel (listed.setIfInBounds i true) a' w') a w) : wpAnyR P ops Q S L (fuel + 1) listed a w :=
  ⟨fun h0 => absurd (hr ▸ h0) hne, hr ▸ h⟩
theorem wpAnyR_done {L : Nat} {listed : Array Bool} {a : Act} {w : World} (hr : Region.ready .any ops listed = []) (h : Q .normal a w) :
    ∀ fuel, wpAnyR P ops Q S L fuel listed a w
  | 0 => ⟨hr, h⟩
  | _ + 1 => ⟨fun _ => h, by rw [hr]; simp⟩
/-- j waits for i -/
def waitB (ops : Array Oper) (j i : Nat) : Bool := ((ops[j]?).map fun o => o.after.any fun e => Region.binds .any e && decide (e.on = i)).getD false
/-- number L waits for all others, itself or by another that waits -/
def lastB (ops : Array Oper) (L : Nat) : Bool :=
  (List.range ops.size).all fun i => decide (i = L) || waitB ops L i || (List.range ops.size).any fun k => waitB ops L k && waitB ops k i
/-- whatever is listed waited for what is listed -/
def ClosedL (ops : Array Oper) (listed : Array Bool) : Prop := ∀ j i, listed.getD j false = true → waitB ops j i = true → listed.getD i false = true
theorem wait_of {j i : Nat} {o : Oper} {listed : Array Bool} (ho : ops[j]? = some o) (hall : ∀ e ∈ o.after, Region.binds .any e = true → listed.getD e.on false = true) (h : waitB ops j i = true) : listed.getD i false = true := by
  unfold waitB at h
  rw [ho] at h
  simp only [Option.map_some, Option.getD_some, Array.any_eq_true', Bool.and_eq_true, decide_eq_true_eq] at h
  obtain ⟨e, he, hb, rfl⟩ := h
  exact hall e he hb
theorem ClosedL.set {j : Nat} {listed : Array Bool} (h : ClosedL ops listed) (hj : j ∈ Region.ready .any ops listed) : ClosedL ops (listed.setIfInBounds j true) := by
  intro k i hk hw
  obtain ⟨_, o, ho, hall⟩ := mem_ready.1 hj
  by_cases e : j = k
  · subst e
    exact getD_set_true (wait_of ho hall hw)
  · rw [getD_set_ne false e] at hk
    exact getD_set_true (h k i hk hw)
theorem ClosedL.start (n : Nat) : ClosedL ops (Array.replicate n false) := by
  intro j i hj _
  exfalso
  rcases Nat.lt_or_ge j n with h | h
  · simp [h] at hj
  · simp [Array.getElem?_eq_none (show (Array.replicate n false).size ≤ j by simpa using h)] at hj
theorem last_waits {L i : Nat} {listed : Array Bool} (h : lastB ops L = true) (hc : ClosedL ops listed) (hL : L ∈ Region.ready .any ops listed) (hi : i ∈ Region.ready .any ops listed) : i = L := by
  obtain ⟨_, o, ho, hall⟩ := mem_ready.1 hL
  obtain ⟨h0, oi, hoi, _⟩ := mem_ready.1 hi
  have hs : i < ops.size := (Array.getElem?_eq_some_iff.1 hoi).1
  have h1 : listed.getD i false = true → False := fun h1 => by
    rcases Nat.lt_or_ge i listed.size with h' | h'
    · simp [h'] at h0 h1; rw [h0] at h1; cases h1
    · simp [Array.getElem?_eq_none h'] at h1
  have := List.all_eq_true.1 h i (List.mem_range.2 hs)
  simp only [Bool.or_eq_true, decide_eq_true_eq, List.any_eq_true, Bool.and_eq_true] at this
  rcases this with (h | h) | ⟨k, _, h2, h3⟩
  · exact h
  · exact (h1 (wait_of ho hall h)).elim
  · exact (h1 (hc k i (wait_of ho hall h2) h3)).elim

theorem wpAnyQ_first {L : Nat} (hL : lastB ops L = true) {i : Nat} {oi : Oper} {v : Value} (hi : ops[i]? = some oi) (hsel : ∀ (j : Nat) (o : Oper) cs b, ops[j]? = some o → o.op ≠ .select cs b)
    (hQ : ∀ c a w, Q (.panic c) (a.put oi.dst v) w → Q (.panic c) a w) :
    ∀ (fuel : Nat) (listed : Array Bool) (a : Act) (w : World), ClosedL ops listed →
      (∀ j oj, ops[j]? = some oj → j ≠ i → listed.getD j true = false → (∀ e ∈ oj.after, Region.binds .any e = true → e.on ≠ i) → oi.apart ops oj = true) →
      i ∈ Region.ready .any ops listed → YieldsQ P ops S oi v a → S w →
      wpAnyR P ops Q S L fuel (listed.setIfInBounds i true) (a.put oi.dst v) w → wpAnyR P ops Q S L (fuel + 1) listed a w := by
  intro fuel
  induction fuel with
  | zero =>
    intro listed a w _ _ hr hy hS H
    refine ⟨fun h => (by rw [h] at hr; cases hr), fun j hj => ?_⟩
    by_cases hji : j = i
    · subst hji; exact hy.wpOp hi hS ⟨.inr hS, H⟩
    · have := ready_mono hj hji
      rw [H.1] at this
      cases this
  | succ fuel ih =>
    intro listed a w hcl hfree hr hy hS H
    refine ⟨fun h => (by rw [h] at hr; cases hr), fun j hj => ?_⟩
    by_cases hji : j = i
    · subst hji; exact hy.wpOp hi hS ⟨.inr hS, H⟩
    · have h1 := H.2 j (ready_mono hj hji)
      obtain ⟨hjun, oj, hoj, hall⟩ := mem_ready.1 hj
      have hnot : ∀ e ∈ oj.after, Region.binds .any e = true → e.on ≠ i := fun e he hb heq => by
        have h1 := hall e he hb
        have h0 := (mem_ready.1 hr).1
        rw [heq] at h1
        rcases Nat.lt_or_ge i listed.size with h' | h'
        · simp [h'] at h0 h1; rw [h0] at h1; cases h1
        · simp [Array.getElem?_eq_none h'] at h1
      have h2 := wpOp_putQ hoj (hfree j oj hoj hji hjun hnot) (fun cs b => hsel i oi cs b hi) (fun cs b => hsel j oj cs b hoj) hQ hy h1
      have hfree' : ∀ k ok, ops[k]? = some ok → k ≠ i → (listed.setIfInBounds j true).getD k true = false →
          (∀ e ∈ ok.after, Region.binds .any e = true → e.on ≠ i) → oi.apart ops ok = true := fun k ok hk hki hun hno => by
        refine hfree k ok hk hki ?_ hno
        by_cases hjk : j = k
        · subst hjk; exact hjun
        · rw [getD_set_ne true hjk] at hun; exact hun
      refine wpOp_mono (fun a' w' h3 => ?_) h2
      have hSw : S w' := h3.2.1.resolve_left fun e => hji (by subst e; exact (last_waits hL hcl hj hr).symm)
      refine ⟨.inr hSw, ih (listed.setIfInBounds j true) a' w' (hcl.set hj) hfree' (ready_mono hr (Ne.symm hji)) h3.1 hSw ?_⟩
      rw [Array.setIfInBounds_comm _ _ hji]
      exact h3.2.2
theorem wpAnyQ_take {L : Nat} (hL : lastB ops L = true) {i : Nat} {oi : Oper} {v : Value} {fuel : Nat} {listed : Array Bool} {a : Act} {w : World} (hi : ops[i]? = some oi)
    (hs : Region.noSelect ops = true) (hf : Region.free .any ops listed i = true) (hr : (Region.ready .any ops listed).contains i = true)
    (hQ : ∀ c a w, Q (.panic c) (a.put oi.dst v) w → Q (.panic c) a w) (hy : YieldsQ P ops S oi v a) (hS : S w) (hcl : ClosedL ops listed)
    (h : wpAnyR P ops Q S L fuel (listed.setIfInBounds i true) (a.put oi.dst v) w) : wpAnyR P ops Q S L (fuel + 1) listed a w :=
  wpAnyQ_first hL hi (Region.noSelect_spec hs) hQ fuel listed a w hcl (Region.free_spec hi hf) (by simpa using hr) hy hS h

def wpP (P : Program) (ops : Array Oper) (Q : Exit → Act → World → Prop) (S : World → Prop) (L : Nat) : List (Nat × Bool) → Act → World → Prop
  | [], a, w => Q .normal a w
  | (i, true) :: r, a, w => ∃ o v, ops[i]? = some o ∧ YieldsQ P ops S o v a ∧ wpP P ops Q S L r (a.put o.dst v) w
  | (i, false) :: r, a, w => wpOp P ops Q i (fun a' w' => (i = L ∨ S w') ∧ wpP P ops Q S L r a' w') a w

def okR (ops : Array Oper) (L : Nat) : List (Nat × Bool) → Array Bool → Bool
  | [], listed => (Region.ready .any ops listed).isEmpty
  | (i, true) :: r, listed => (Region.ready .any ops listed).contains i && Region.free .any ops listed i && okR ops L r (listed.setIfInBounds i true)
  | (i, false) :: r, listed => decide (Region.ready .any ops listed = [i]) && (!decide (i = L) || r.isEmpty) && okR ops L r (listed.setIfInBounds i true)
theorem wpAnyR_of_wpP {L : Nat} (hL : lastB ops L = true) (hs : Region.noSelect ops = true) (hQ : ∀ c a d v w, Q (.panic c) (a.put d v) w → Q (.panic c) a w) :
    ∀ (ord : List (Nat × Bool)) (listed : Array Bool) (a : Act) (w : World), okR ops L ord listed = true → ClosedL ops listed → (ord = [] ∨ S w) → wpP P ops Q S L ord a w →
      wpAnyR P ops Q S L ord.length listed a w := by
  intro ord
  induction ord with
  | nil =>
    intro listed a w hok _ _ h
    simp only [okR, List.isEmpty_iff] at hok
    exact wpAnyR_done hok h 0
  | cons x r ih =>
    intro listed a w hok hcl hS h
    obtain ⟨i, b⟩ := x
    cases b with
    | true =>
      simp only [okR, Bool.and_eq_true] at hok
      obtain ⟨o, v, hi, hy, h⟩ := h
      have hS := hS.resolve_left (by simp)
      exact wpAnyQ_take hL hi hs hok.1.2 hok.1.1 (fun c a w => hQ c a _ v w) hy hS hcl (ih _ _ _ hok.2 (hcl.set (by simpa using hok.1.1)) (.inr hS) h)
    | false =>
      simp only [okR, Bool.and_eq_true, decide_eq_true_eq] at hok
      obtain ⟨⟨h1, h2⟩, h3⟩ := hok
      refine wpAnyR_all h1 (by simp) ?_
      intro j hj
      obtain rfl : j = i := by simpa using hj
      exact wpOp_mono (fun a' w' h' => ⟨h'.1, ih _ _ _ h3 (hcl.set (by rw [h1]; simp)) (h'.1.imp (fun e => by rw [Bool.or_eq_true] at h2; rcases h2 with h2 | h2 <;> simp_all) id) h'.2⟩) h

theorem wp_region_ordQ {id : Nat} {a : Act} {w : World} (L : Nat) (ord : List (Nat × Bool)) (S : World → Prop) (hm : P.follows .mixedOrders = true) (hs : Region.noSelect ops = true)
    (hL : lastB ops L = true) (hn : ord.length = ops.size) (hok : okR ops L ord (Array.replicate ops.size false) = true)
    (hQ : ∀ c a d v w, Q (.panic c) (a.put d v) w → Q (.panic c) a w) (hS : S w.drew) (h : wpP P ops Q S L ord a w.drew) : (Code.region id ops true).wp P Q a w :=
  wp_region_any hm (by rw [← hn]; rw [← hn] at hok; exact wpAny_of_R _ _ _ _ (wpAnyR_of_wpP hL hs hQ ord _ a _ hok (ClosedL.start _) (.inr hS) h))

theorem wpP_nil {L : Nat} {a : Act} {w : World} (h : Q .normal a w) : wpP P ops Q S L [] a w := h
theorem wpP_light {L i : Nat} {r : List (Nat × Bool)} {a : Act} {w : World} (o : Oper) (hi : ops[i]? = some o) (hw : Region.wanted o (yielded ops a.tmps) = true) (v : Value)
    (hv : ∀ w, S w → (execOp a.eval o).run P w = .ok (.value v) w) (h : wpP P ops Q S L r (a.put o.dst v) w) : wpP P ops Q S L ((i, true) :: r) a w :=
  ⟨o, v, hi, .inl ⟨hw, fun w hS => .inl (hv w hS)⟩, h⟩
/-- a call that leaves the world as it is -/
theorem wpP_quiet {L i : Nat} {r : List (Nat × Bool)} {a : Act} {w : World} (o : Oper) (hi : ops[i]? = some o) (hw : Region.wanted o (yielded ops a.tmps) = true) (v : Value)
    (f : FuncId) (args : Array Value) (hv : ∀ w, S w → (execOp a.eval o).run P w = .ok (.enter f args) w) (hc : ∀ w, Calls P f args w fun e w' => e = .returned v ∧ w = w') (h : wpP P ops Q S L r (a.put o.dst v) w) : wpP P ops Q S L ((i, true) :: r) a w :=
  ⟨o, v, hi, .inl ⟨hw, fun w hS => .inr ⟨f, args, hv w hS, hc w⟩⟩, h⟩
theorem wpP_skip {L i : Nat} {r : List (Nat × Bool)} {a : Act} {w : World} (o : Oper) (hi : ops[i]? = some o) (hw : Region.wanted o (yielded ops a.tmps) = false)
    (h : wpP P ops Q S L r (a.put o.dst undef) w) : wpP P ops Q S L ((i, true) :: r) a w :=
  ⟨o, undef, hi, .inr ⟨hw, rfl⟩, h⟩
theorem wpP_heavy {L i : Nat} {r : List (Nat × Bool)} {a : Act} {w : World} (o : Oper) (hi : ops[i]? = some o) (hw : Region.wanted o (yielded ops a.tmps) = true)
    (h : ∀ K' : Act → World → Prop, (∀ a w, (i = L ∨ S w) ∧ wpP P ops Q S L r a w → K' a w) → Oper.wp P o a w K' Q) : wpP P ops Q S L ((i, false) :: r) a w :=
  wpOp_step hi fun K' hK => by rw [if_pos hw]; exact h K' hK
theorem wpP_pass {L i : Nat} {r : List (Nat × Bool)} {a : Act} {w : World} (o : Oper) (hi : ops[i]? = some o) (hw : Region.wanted o (yielded ops a.tmps) = false)
    (hS : S w) (h : wpP P ops Q S L r (a.put o.dst undef) w) : wpP P ops Q S L ((i, false) :: r) a w :=
  wpOp_step hi fun K' hK => by rw [if_neg (by rw [hw]; simp)]; exact hK _ _ ⟨.inr hS, h⟩
/-- a forced operation that makes or writes memory in a known way -/
theorem wpP_value {L i : Nat} {r : List (Nat × Bool)} {a : Act} {w : World} (o : Oper) (hi : ops[i]? = some o) (hgd : o.guard = none) (v : Value) (w' : World)
    (hr : (execOp a.eval o).run P w = .ok (.value v) w') (h : (i = L ∨ S w') ∧ wpP P ops Q S L r (a.put o.dst v) w') : wpP P ops Q S L ((i, false) :: r) a w :=
  wpP_heavy o hi (by simp [Region.wanted, hgd]) fun K' hK => by
    unfold Oper.wp
    rw [hr]
    exact hK _ _ h
theorem wpP_skipH {L i : Nat} {r : List (Nat × Bool)} {a : Act} {w : World} (o : Oper) (hi : ops[i]? = some o) (hgd : o.guard = none) (w' : World)
    (hr : (execOp a.eval o).run P w = .ok .skip w') (h : (i = L ∨ S w') ∧ wpP P ops Q S L r (a.put o.dst undef) w') : wpP P ops Q S L ((i, false) :: r) a w :=
  wpP_heavy o hi (by simp [Region.wanted, hgd]) fun K' hK => by
    unfold Oper.wp
    rw [hr]
    exact hK _ _ h
theorem wpP_append {L i : Nat} {r : List (Nat × Bool)} {a : Act} {w : World} (o : Oper) (hi : ops[i]? = some o) (hgd : o.guard = none) (s x : Operand) (t : TypeId)
    (ho : o.op = .call { callee := .builtin .append, args := #[s, x], argTypes := #[t, t] })
    (base : Nat) (e : TypeId) (ii : TypeInfo) (z : Value) (size bytes : Nat) (ht : P.underlying t = some (.slice e)) (hii : P.info? e = some ii) (hz : ii.zero = some z)
    (hsize : ii.size = size) (hby : ii.bytes = bytes) (hzs : z.cells.size = size) (hsz : 0 < size)
    (v : Value) (n : Nat) (xs : List Value) (hs : a.eval s = v) (hown : w.ownsRow base e size v n xs)
    (ad : Addr) (m c : Nat) (news : List Value) (hx : a.eval x = .slice (some ad) m c) (hl : news.length = m * size) (hnews : ∀ j u, news[j]? = some u → w.cell? (ad.add j) = some u) (h1 : ∀ u ∈ news, u.oneCell' = true)
    (h63 : n + m ≤ maxLen) (hbytes : (n + m) * bytes ≤ 140737488355328) (hbase : base ≤ w.heap.size)
    (h : ∀ v' w', w'.ownsRow base e size v' (n + m) (xs ++ news) → w.grownBy w' v.ownBlock → (v'.ownBlock = v.ownBlock ∨ v'.ownBlock = some w.heap.size) → (i = L ∨ S w') ∧ wpP P ops Q S L r (a.put o.dst v') w') :
    wpP P ops Q S L ((i, false) :: r) a w :=
  wpP_heavy o hi (by simp [Region.wanted, hgd]) fun K' hK => by
    obtain ⟨v', w', hr, h2, h3, _, h5⟩ := run_append_own_at (P := P) w base t o.type e ii z size bytes ht hii hz hsize hby hzs hsz v n xs hown ad m c news hl hnews h1 h63 hbytes hbase
    unfold Oper.wp execOp
    simp only [ho, resolve, invoke, builtin, Sem.run_bind, Sem.run_pure, Result.andThen_ok, List.map_toArray, List.map_cons, List.map_nil, hs, hx, hr]
    exact hK _ _ (h v' w' h2 h3 h5)
end
end Go.Proofs.YteilaajjpjhijaaDoor
