/- A region that draws its order, walked in one given order: operations that yield the same value in every world of a class S are taken as early as they may come; the others come one by one, in the only order that is left. -/
import Derived.Test.YteilaajjpjhijaaDoorRow
import Derived.Deep.RegionHeld3
namespace Go.Proofs.YteilaajjpjhijaaDoor
open Go.RowKit PSpec
section
variable {P : Program} {ops : Array Oper} {Q : Exit → Act → World → Prop} {S : World → Prop}

def wpO (P : Program) (ops : Array Oper) (Q : Exit → Act → World → Prop) (S : World → Prop) : List (Nat × Bool) → Act → World → Prop
  | [], a, w => Q .normal a w
  | (i, true) :: r, a, w => ∃ o v, ops[i]? = some o ∧ YieldsIf P ops S o v a ∧ wpO P ops Q S r (a.put o.dst v) w
  | (i, false) :: r, a, w => wpOp P ops Q i (fun a' w' => S w' ∧ wpO P ops Q S r a' w') a w

def okO (ops : Array Oper) : List (Nat × Bool) → Array Bool → Bool
  | [], listed => (Region.ready .any ops listed).isEmpty
  | (i, true) :: r, listed => (Region.ready .any ops listed).contains i && Region.free .any ops listed i && okO ops r (listed.setIfInBounds i true)
  | (i, false) :: r, listed => decide (Region.ready .any ops listed = [i]) && okO ops r (listed.setIfInBounds i true)

theorem wpAnyH_of_wpO (hs : Region.noSelect ops = true) (hQ : ∀ c a d v w, Q (.panic c) (a.put d v) w → Q (.panic c) a w) :
    ∀ (ord : List (Nat × Bool)) (listed : Array Bool) (a : Act) (w : World), okO ops ord listed = true → S w → wpO P ops Q S ord a w →
      wpAnyH P .any ops Q S ord.length listed a w := by
  intro ord
  induction ord with
  | nil =>
    intro listed a w hok _ h
    simp only [okO, List.isEmpty_iff] at hok
    exact wpAnyH_done hok h 0
  | cons x r ih =>
    intro listed a w hok hS h
    obtain ⟨i, b⟩ := x
    cases b with
    | true =>
      simp only [okO, Bool.and_eq_true] at hok
      obtain ⟨o, v, hi, hy, h⟩ := h
      exact wpAnyH_take hi hs hok.1.2 hok.1.1 (fun c a w => hQ c a _ v w) hy hS (ih _ _ _ hok.2 hS h)
    | false =>
      simp only [okO, Bool.and_eq_true, decide_eq_true_eq] at hok
      refine wpAnyH_all hok.1 (by simp) ?_
      intro j hj
      obtain rfl : j = i := by simpa using hj
      exact wpOp_mono (fun a' w' h' => ⟨h'.1, ih _ _ _ hok.2 h'.1 h'.2⟩) h

theorem wp_region_ord {id : Nat} {a : Act} {w : World} (ord : List (Nat × Bool)) (S : World → Prop) (hm : P.follows .mixedOrders = true) (hs : Region.noSelect ops = true)
    (hn : ord.length = ops.size) (hok : okO ops ord (Array.replicate ops.size false) = true)
    (hQ : ∀ c a d v w, Q (.panic c) (a.put d v) w → Q (.panic c) a w) (hS : S w.drew) (h : wpO P ops Q S ord a w.drew) : (Code.region id ops true).wp P Q a w :=
  wp_region_held (S := S) hm (by rw [← hn]; rw [← hn] at hok; exact wpAnyH_of_wpO hs hQ ord _ a _ hok hS h)

theorem wpO_nil {a : Act} {w : World} (h : Q .normal a w) : wpO P ops Q S [] a w := h
theorem wpO_light {i : Nat} {r : List (Nat × Bool)} {a : Act} {w : World} (o : Oper) (hi : ops[i]? = some o) (hw : Region.wanted o (yielded ops a.tmps) = true) (v : Value)
    (hv : ∀ w, S w → (execOp a.eval o).run P w = .ok (.value v) w) (h : wpO P ops Q S r (a.put o.dst v) w) : wpO P ops Q S ((i, true) :: r) a w :=
  ⟨o, v, hi, .inl ⟨hw, hv⟩, h⟩
theorem wpO_skip {i : Nat} {r : List (Nat × Bool)} {a : Act} {w : World} (o : Oper) (hi : ops[i]? = some o) (hw : Region.wanted o (yielded ops a.tmps) = false)
    (h : wpO P ops Q S r (a.put o.dst undef) w) : wpO P ops Q S ((i, true) :: r) a w :=
  ⟨o, undef, hi, .inr ⟨hw, rfl⟩, h⟩
theorem wpO_heavy {i : Nat} {r : List (Nat × Bool)} {a : Act} {w : World} (o : Oper) (hi : ops[i]? = some o) (hw : Region.wanted o (yielded ops a.tmps) = true)
    (h : ∀ K' : Act → World → Prop, (∀ a w, S w ∧ wpO P ops Q S r a w → K' a w) → Oper.wp P o a w K' Q) : wpO P ops Q S ((i, false) :: r) a w :=
  wpOp_step hi fun K' hK => by rw [if_pos hw]; exact h K' hK
theorem wpO_pass {i : Nat} {r : List (Nat × Bool)} {a : Act} {w : World} (o : Oper) (hi : ops[i]? = some o) (hw : Region.wanted o (yielded ops a.tmps) = false)
    (hS : S w) (h : wpO P ops Q S r (a.put o.dst undef) w) : wpO P ops Q S ((i, false) :: r) a w :=
  wpOp_step hi fun K' hK => by rw [if_neg (by rw [hw]; simp)]; exact hK _ _ ⟨hS, h⟩
end
theorem run_loadMid66 {S : World → Prop} {a : Act} {o : Oper} (x : Operand) (ho : o.op = .load 66 x) (b f : Nat) (hx : a.eval x = .pointer (some ⟨b, f, none⟩)) (c : Nat → Int)
    (hr : ∀ w, S w → w.rangeAt b f (arrL c)) : ∀ w, S w → (execOp a.eval o).run Tryd.prog w = .ok (.value (.agg (arrC c))) w := by
  intro w hS
  have hr := hr w hS
  unfold execOp
  simp only [ho, hx, Instr.loadAt, Instr.sureAddr, Sem.run_bind, Sem.run_pure, Result.andThen_ok, run_loadVar_mid w b f 66 (arrL c) _ hr Tryd.underlying66 rfl (by rw [arrL_len]; exact info66)]
  rfl
theorem run_load66 {S : World → Prop} {a : Act} {o : Oper} (x : Operand) (ho : o.op = .load 66 x) (g : Nat) (hx : a.eval x = .pointer (some ⟨g, 0, none⟩)) (A : Array Value)
    (hA : A.size = 12) (hr : ∀ w, S w → rowC w g = A) : ∀ w, S w → (execOp a.eval o).run Tryd.prog w = .ok (.value (.agg A)) w := by
  intro w hS
  have hr := hr w hS
  obtain ⟨t, ht⟩ := rowC_heap (w := w) (g := g) (by rw [hr]; omega)
  rw [hr] at ht
  unfold execOp
  simp only [ho, hx, Instr.loadAt, Instr.sureAddr, Sem.run_bind, Sem.run_pure, Result.andThen_ok, run_loadVar_row w g t 66 _ _ _ ht Tryd.underlying66 rfl (by rw [hA]; kernel_rfl)]
end Go.Proofs.YteilaajjpjhijaaDoor
