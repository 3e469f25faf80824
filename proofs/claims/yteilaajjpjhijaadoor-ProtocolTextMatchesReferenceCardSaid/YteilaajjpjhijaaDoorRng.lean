/- The statement that ranges over the iterator takes: what its body must keep. -/
import Derived.Test.YteilaajjpjhijaaDoorW6
import Derived.Test.YteilaajjpjhijaaDoorMap
namespace Go.Proofs.YteilaajjpjhijaaDoor
open Go.RowKit PSpec

/-- how the body of a round must end -/
def BodyEnd (B : Nat) (I : Nat → World → Prop) (t : Nat) (W : World) : Exit → Act → World → Prop
  | .normal, _, W' => I (t + 1) W' ∧ W'.heap[B]? = W.heap[B]? ∧ W'.heap[B + 1]? = W.heap[B + 1]?
  | _, _, _ => False

theorem below_putObj {B l : Nat} (W : World) (o : Obj) (h : B ≤ l) : Below B W (W.putObj l o) :=
  ⟨rfl, rfl, rfl, by simp [World.putObj], fun k hk => World.putObj_heap_other (by omega)⟩

theorem range68 {Q : Exit → Act → World → Prop} {a : Act} {w : World} (g : Operand) (p : Tmp) (assign body : Code) (bx bc : Nat)
    (hg : a.eval g = .func (.func 68) #[] #[.pointer (some ⟨bx, 0, none⟩), .pointer (some ⟨bc, 0, none⟩)])
    (x : It) (a0 : Option Addr) (cap b o : Nat) (ch : List Int) (I : Nat → World → Prop)
    (hI : ∀ t W W', I t W → Below w.heap.size W W' → I t W')
    (hJ : ∀ t W, I t W → W.cell? ⟨bx, 0, none⟩ = some (.int .i64 x.1) ∧ W.cell? ⟨bx, 2, none⟩ = some (.int .i64 x.2.2) ∧ W.cell? ⟨bc, 0, none⟩ = some (.slice a0 ch.length cap) ∧
      ∀ i y, ch[i]? = some y → W.cell? ⟨b, o + i, none⟩ = some (.int .i64 y))
    (ha : ch ≠ [] → a0 = some ⟨b, o, none⟩) (hm : x.2.2 ≤ 9) (hlen : ch.length ≤ 30) (h0 : I 0 w)
    (a1 : Nat → Act)
    (hassign : ∀ (t : Nat) (W : World) (K : Act → World → Prop), K (a1 t) W → assign.wpIn (Fence.wide.inRound (w.heap.size + 1)) 0 Tryd.prog (Exit.then K (fun _ _ _ => False)) { tmps := a.tmps.setIfInBounds p (.int .i64 t), defers := [] } W)
    (hbody : ∀ (t : Nat) (W : World), t ≤ maxT x ch → I t W → w.heap.size + 1 < W.heap.size → body.wpIn (Fence.wide.inRound (w.heap.size + 1)) 0 Tryd.prog (BodyEnd w.heap.size I t W) (a1 t) W)
    (hdone : ∀ W, I (maxT x ch + 1) W → W.heap[w.heap.size]? = some (.deferred (some [])) → w.heap.size + 1 < W.heap.size → Q .normal { a with defers := { target := .collected w.heap.size, args := #[] } :: a.defers } W) :
    (Code.rangeFunc g #[p] assign body).wpIn Fence.wide 0 Tryd.prog Q a w := by
  have hF : ∀ f, Fence.wide.fn f := fun _ => trivial
  refine wpIn_rangeFunc ?_
  intro fn _
  obtain ⟨rec, hrec⟩ : ∃ rec : LoopState → Loop, rec = fun st => { state := st, pending := none, fn, tmps := a.tmps, params := #[p], assign, body, defers := w.heap.size } := ⟨_, rfl⟩
  obtain ⟨W1, hW1⟩ : ∃ W1, (w.alloc (.deferred (some []))).alloc (.loop (rec .ready)) = W1 := ⟨_, rfl⟩
  have hL1 : W1.heap[w.heap.size + 1]? = some (.loop (rec .ready)) := by
    rw [← hW1]; have := World.alloc_heap_new (w.alloc (.deferred (some []))) (.loop (rec .ready)); rwa [World.size_alloc] at this
  have hK1 : W1.heap[w.heap.size]? = some (.deferred (some [])) := by
    rw [← hW1]; exact (Below.heap_alloc _ _ _ (by simp)).trans (World.alloc_heap_new w _)
  have hb1 : Below w.heap.size w W1 := by
    rw [← hW1]; exact ((Below.refl _ w).alloc (Nat.le_refl _) _).alloc (by simp) _
  refine ⟨w.heap.size + 1, [{ target := .collected w.heap.size, args := #[] }], W1, { target := .fn (.func 68) #[.pointer (some ⟨bx, 0, none⟩), .pointer (some ⟨bc, 0, none⟩)], args := #[.func (.yield (w.heap.size + 1)) #[] #[]] }, W1, 68,
    #[.func (.yield (w.heap.size + 1)) #[] #[], .pointer (some ⟨bx, 0, none⟩), .pointer (some ⟨bc, 0, none⟩)], W1, ?_, ?_, ?_, ?_, ?_, ?_⟩
  · rw [← hW1, hrec]; exact run_enterLoop_outer _ _ _ _ _
  · simp only [resolve, hg]
    simp [go_sem]
  · intro f' _; trivial
  · simp [invoke, go_sem]
  · intro h; cases h
  · have := f68_any (w.heap.size + 1) bx bc x a0 cap b o ch
      (fun t W => I t W ∧ W.heap[w.heap.size + 1]? = some (.loop (rec .ready)) ∧ W.heap[w.heap.size]? = some (.deferred (some [])))
      (fun t W h => hJ t W h.1) ha (fun t W h => ⟨hI t W _ h.1 (Below.refl _ _).drew, h.2.1, h.2.2⟩) hm hlen ?_ W1 ⟨hI 0 w W1 h0 hb1, hL1, hK1⟩
    · refine this.mono ?_
      rintro e W2 ⟨⟨v, rfl⟩, hi, hl, hk⟩
      have hend := run_endLoop (P := Tryd.prog) hl (by rw [hrec]; simp)
      rw [hrec] at hend
      refine ⟨none, _, hend, hdone _ (hI _ _ _ hi (below_putObj _ _ (by omega))) ((World.putObj_heap_other (by omega)).trans hk) ?_⟩
      have := (Array.getElem?_eq_some_iff.1 hl).1
      simpa [World.putObj] using this
    · -- one round
      rintro t W ht ⟨hi, hl, hk⟩
      have hlt : w.heap.size + 1 < W.heap.size := (Array.getElem?_eq_some_iff.1 hl).1
      have hy := run_yield (P := Tryd.prog) (args := #[.int .i64 t]) hl (by rw [hrec]; rfl)
      have hy' : (Instr.yield (w.heap.size + 1) #[.int .i64 t]).run Tryd.prog W = .ok (.round (w.heap.size + 1) fn (a.tmps.setIfInBounds p (.int .i64 t)) assign body) W := by
        rw [hy, hrec]; simp
      refine ⟨fn, _, assign, body, hy', roundIn_of_wpIn (hF _) (hassign t W _ (?_ : ∃ w₂, _ ∧ _))⟩
      refine ⟨_, run_beginRound hl (by rw [hrec]), ?_⟩
      clear hy hy'
      have hl2 : (W.putObj (w.heap.size + 1) (.loop (rec .busy))).heap[w.heap.size + 1]? = some (.loop (rec .busy)) := World.putObj_heap_same hlt
      have hk2 : (W.putObj (w.heap.size + 1) (.loop (rec .busy))).heap[w.heap.size]? = some (.deferred (some [])) := (World.putObj_heap_other (by omega)).trans hk
      have hrb : ({ rec .ready with state := .busy } : Loop) = rec .busy := by rw [hrec]
      rw [hrb]
      refine wpIn_mono (hbody t _ ht (hI _ _ _ hi (below_putObj _ _ (by omega))) (by simpa [World.putObj] using hlt)) ?_
      rintro e a3 W3 hp
      cases e with
      | normal =>
        obtain ⟨hi3, hd3, hr3⟩ := hp
        have hl3 : W3.heap[w.heap.size + 1]? = some (.loop (rec .busy)) := hr3.trans hl2
        have hk3 : W3.heap[w.heap.size]? = some (.deferred (some [])) := hd3.trans hk2
        have hre := run_endRound (P := Tryd.prog) none hl3
        refine ⟨_, _, hre, rfl, hI _ _ _ hi3 (below_putObj _ _ (by omega)), ?_, (World.putObj_heap_other (by omega)).trans hk3⟩
        rw [World.putObj_heap_same (Array.getElem?_eq_some_iff.1 hl3).1, hrec]; rfl
      | ret => exact hp.elim
      | exit id => exact hp.elim
      | goto t => exact hp.elim
      | panic c => exact hp.elim
      | outgrown => exact hp.elim
end Go.Proofs.YteilaajjpjhijaaDoor
