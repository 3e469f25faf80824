/- Walk of one round of divide's loop over the places. -/
import Derived.Test.YteilaajjpjhijaaDoorW7
namespace Go.Proofs.YteilaajjpjhijaaDoor
open Go.RowKit PSpec

def hasRF : Code → Bool
  | .seq a b => hasRF a || hasRF b
  | .block _ c => hasRF c
  | .loop c => hasRF c
  | .scope c => hasRF c
  | .rangeFunc _ _ _ _ => true
  | _ => false
/-- the body of the innermost loop that holds a range over a function -/
def rfLoop : Code → Option Code
  | .seq a b => match rfLoop a with | some c => some c | none => rfLoop b
  | .block _ c => rfLoop c
  | .scope c => rfLoop c
  | .loop c => match rfLoop c with | some d => some d | none => if hasRF c then some c else none
  | _ => none
noncomputable def code33l : Code := ((Tryd.f33.body.bind rfLoop).getD .skip)

def dl (ds : List Nat) : List Deferred := ds.map fun D => { target := .collected D, args := #[] }
structure DOK (B : Nat) (ds : List Nat) (W : World) : Prop where
  nd : ds.Nodup
  at_ : ∀ D, D ∈ ds → W.heap[D]? = some (.deferred (some [])) ∧ B ≤ D

def fr2 (iv cv : Value) (h0 b Bx Bn r len k : Nat) (u : Nat → Value) : Array Value :=
  #[iv, cv, u 2, u 3, (.pointer (some ⟨h0, 0, none⟩)), (.bool false), (.map (some b)), u 7, (.pointer (some ⟨Bx, 0, none⟩)), (.pointer (some ⟨Bn, 0, none⟩)), u 10, u 11, u 12, u 13, u 14, u 15, u 16, u 17, u 18, u 19, u 20, iv, (.int .i64 len), (.int .i64 k), u 24, u 25, u 26, u 27, (.map (some b)), (.pointer (some ⟨r, 0, none⟩)), u 30, u 31, u 32, u 33, u 34, u 35, u 36, u 37, u 38, u 39, u 40, u 41, u 42, u 43, u 44, u 45, u 46, u 47, u 48, u 49, u 50, u 51, u 52, u 53, u 54, u 55, u 56, u 57, u 58, u 59, u 60, u 61, u 62, u 63, u 64, u 65, u 66, u 67, u 68, u 69, u 70, u 71, u 72, u 73, u 74, u 75, u 76, u 77, u 78, u 79, u 80, u 81, u 82, u 83, u 84]

/-- what holds between two rounds of the loop over the places -/
structure F2 (w : World) (x : It) (LM : LMt) (h0 b b2 Bx Bn r : Nat) (ds sn : List Nat) (L2 : LMt) (W : World) : Prop where
  it : W.heap[r]? = some (itObj b (cm LM) sn)
  now : W.heap[b]? = some (mapObj (cm LM))
  nxt : W.heap[b2]? = some (mapObj (cm L2))
  x0 : W.cell? ⟨Bx, 0, none⟩ = some (.int .i64 x.1)
  x1 : W.cell? ⟨Bx, 1, none⟩ = some (.int .i64 x.2.1)
  x2 : W.cell? ⟨Bx, 2, none⟩ = some (.int .i64 x.2.2)
  n0 : W.cell? ⟨Bn, 0, none⟩ = some (.map (some b2))
  z : rowC W h0 = arrC fun _ => 0
  bel : Below w.heap.size w W
  dok : DOK w.heap.size ds W
  low : w.heap.size ≤ b2 ∧ w.heap.size ≤ r ∧ b ≠ b2

theorem DOK.below {B : Nat} {ds : List Nat} {W W' : World} (h : DOK B ds W) (hb : Below W.heap.size W W') : DOK B ds W' :=
  ⟨h.nd, fun D hD => ⟨(hb.block D (Array.getElem?_eq_some_iff.1 (h.at_ D hD).1).1).trans (h.at_ D hD).1, (h.at_ D hD).2⟩⟩
section
variable {w W W' : World} {x : It} {LM L2 L3 : LMt} {h0 b b2 Bx Bn r : Nat} {ds sn : List Nat}
theorem lt_of_heap {W : World} {k : Nat} {o : Obj} (h : W.heap[k]? = some o) : k < W.heap.size := (Array.getElem?_eq_some_iff.1 h).1
theorem F2.below (h : F2 w x LM h0 b b2 Bx Bn r ds sn L2 W) (hb : Below W.heap.size W W') : F2 w x LM h0 b b2 Bx Bn r ds sn L2 W' := by
  have k := keeps_of_below hb
  exact ⟨(hb.block _ (lt_of_heap h.it)).trans h.it, (hb.block _ (lt_of_heap h.now)).trans h.now, (hb.block _ (lt_of_heap h.nxt)).trans h.nxt, k _ _ h.x0, k _ _ h.x1, k _ _ h.x2, k _ _ h.n0,
    (rowC_below hb (rowC_lt (by rw [h.z, arrC_size]; omega))).trans h.z, h.bel.trans (hb.mono h.bel.size), h.dok.below hb, h.low⟩
theorem cell_not {W : World} {p : Addr} {v : Value} {k : Nat} {o : Obj} (hc : W.cell? p = some v) (ho : W.heap[k]? = some o) (hn : o.isCells = false) : p.block ≠ k := by
  rintro rfl
  unfold World.cell? at hc
  rw [ho] at hc
  cases o <;> simp_all [Obj.isCells]
theorem row_not {W : World} {g k : Nat} {A : Array Value} {o : Obj} (hr : rowC W g = A) (hA : 0 < A.size) (ho : W.heap[k]? = some o) (hn : o.isCells = false) : g ≠ k := by
  rintro rfl
  unfold rowC at hr
  rw [ho] at hr
  cases o <;> simp_all [Obj.isCells, ocells]
theorem cell_putObj {W : World} {p : Addr} {k : Nat} (o : Obj) (h : p.block ≠ k) : (W.putObj k o).cell? p = W.cell? p := World.cell?_of_block (World.putObj_heap_other h)
theorem row_putObj {W : World} {g k : Nat} (o : Obj) (h : g ≠ k) : rowC (W.putObj k o) g = rowC W g := by
  unfold rowC; rw [World.putObj_heap_other h]
theorem F2.step (h : F2 w x LM h0 b b2 Bx Bn r ds sn L2 W) (i : Nat) : F2 w x LM h0 b b2 Bx Bn r ds (sn ++ [i]) L2 (W.putObj r (itObj b (cm LM) (sn ++ [i]))) := by
  have nb : b ≠ r := by rintro rfl; have := h.it; rw [h.now] at this; simp [mapObj, itObj] at this
  have nb2 : b2 ≠ r := by rintro rfl; have := h.it; rw [h.nxt] at this; simp [mapObj, itObj] at this
  refine ⟨World.putObj_heap_same (lt_of_heap h.it), (World.putObj_heap_other nb).trans h.now, (World.putObj_heap_other nb2).trans h.nxt, (cell_putObj _ (cell_not h.x0 h.it rfl)).trans h.x0, (cell_putObj _ (cell_not h.x1 h.it rfl)).trans h.x1, (cell_putObj _ (cell_not h.x2 h.it rfl)).trans h.x2, (cell_putObj _ (cell_not h.n0 h.it rfl)).trans h.n0, (row_putObj _ (row_not h.z (by rw [arrC_size]; omega) h.it rfl)).trans h.z, h.bel.trans (below_putObj _ _ h.low.2.1), ⟨h.dok.nd, fun D hD => ⟨(World.putObj_heap_other ?_).trans (h.dok.at_ D hD).1, (h.dok.at_ D hD).2⟩⟩, h.low⟩
  rintro rfl
  have := (h.dok.at_ D hD).1
  rw [h.it] at this; simp [itObj] at this
theorem F2.drew (h : F2 w x LM h0 b b2 Bx Bn r ds sn L2 W) : F2 w x LM h0 b b2 Bx Bn r ds sn L2 W.drew := h.below (Below.refl _ _).drew
theorem F2.grown (h : F2 w x LM h0 b b2 Bx Bn r ds sn L2 W) (hg : W.grownBy W' (some b2)) (hn : W'.heap[b2]? = some (mapObj (cm L3))) : F2 w x LM h0 b b2 Bx Bn r ds sn L3 W' := by
  have other : ∀ (k : Nat) (o : Obj), W.heap[k]? = some o → k ≠ b2 → W'.heap[k]? = some o := fun k o hk hne => (hg.block k (lt_of_heap hk) (by simpa using hne)).trans hk
  refine ⟨other _ _ h.it ?_, other _ _ h.now h.low.2.2, hn, cell_grown hg h.nxt h.x0, cell_grown hg h.nxt h.x1, cell_grown hg h.nxt h.x2, cell_grown hg h.nxt h.n0, rowC_grown hg h.nxt h.z (by rw [arrC_size]; omega),
    h.bel.grown hg h.bel.size (fun k e => by cases e; exact h.low.1), ⟨h.dok.nd, fun D hD => ⟨other _ _ (h.dok.at_ D hD).1 ?_, (h.dok.at_ D hD).2⟩⟩, h.low⟩
  · rintro rfl; have := h.it; rw [h.nxt] at this; simp [mapObj, itObj] at this
  · rintro rfl; have := (h.dok.at_ D hD).1; rw [h.nxt] at this; simp [mapObj] at this
theorem cands_nil {L : ML} {seen : List Nat} (h : candsOf L seen = []) (i : Nat) (hi : i < L.length) : i ∈ seen := by
  unfold candsOf at h
  rw [List.filter_eq_nil_iff] at h
  have hm : mEnt L[i] i ∈ mEnts L := List.mem_of_getElem? (i := i) (by rw [mEnts_get, List.getElem?_eq_getElem hi]; rfl)
  have := h _ hm
  simpa [mEnt] using this
end


theorem wpIn_region_call_lit {n : Nat} {l : List Oper} {Q : Exit → Act → World → Prop} {id : Nat} {a : Act} {w : World} (m : Nat) (aF : Act) (S : World → Prop) (hck : ckF l.toArray m = true)
    (hsize : a.tmps.size = aF.tmps.size) (hdef : a.defers = aF.defers) (hsame : ∀ t, (∀ i, i < m → dstOf l.toArray i ≠ some t) → a.tmps[t]? = aF.tmps[t]?)
    (hl : P68 Tryd.prog l.toArray (fun _ => false) S aF m 0 l) (hS : S w.drew) (oL : Oper) (hoL : l[m]? = some oL) (hgd : oL.guard = none) (hnd : ∀ c, oL.op ≠ .defer c) (f : FuncId) (args : Array Value)
    (hrun : (execOp aF.eval oL).run Tryd.prog w.drew = .ok (.enter f args) w.drew) (v : Value) (w2 : World)
    (hcall : Calls Tryd.prog f args w.drew fun e w' => e = .returned v ∧ w' = w2) (hQ : Q .normal (aF.put oL.dst v) w2) : (Code.region id l.toArray true).wpIn Fence.wide n Tryd.prog Q a w := by
  refine wpIn_region_fin m aF S (fun _ => trivial) rfl hck hsize hdef hsame (fun i o hi ho => ?_) hS (fun K hK => ?_)
  · have := P68_get l 0 hl i o (by simpa using ho) (by omega)
    simpa using this
  · unfold wpOpIn
    have : l.toArray[m]? = some oL := by simpa using hoL
    simp only [this]
    rw [if_pos (by simp [Region.wanted, hgd])]
    refine ⟨fun f _ => trivial, ?_⟩
    rw [Oper.semAt_eq _ _ _ hnd, hrun, Oper.uponIn_enter]
    refine ⟨fun h => by simp [Fence.wide] at h, (callsIn_wide.2 hcall).mono ?_⟩
    rintro e w' ⟨rfl, rfl⟩
    exact hK _ _ hQ

theorem maxT_le (x : It) (ch : List Int) : maxT x ch ≤ x.2.2.toNat := by
  unfold maxT
  exact Nat.le_trans (List.takeWhile_sublist _).length_le (by simp; omega)
theorem midL_snoc (x : It) (ch : List Int) (LM : LMt) (pr : List Nat) (i : Nat) : midL x ch LM (pr ++ [i]) = entryStep x ch LM (midL x ch LM pr) i := by simp [midL]
theorem good_inner {n len a : Nat} {m : List Int} {x : It} {L : LMt} (hG : GoodM (n + 9) len L) (hm : Wf n m) (hx : opB x.1 = true) (h9 : x.2.1 ≤ 9) (T : Nat) (hT : a + T ≤ len + 1) : GoodM (n + 9) len (inner x a m T L) := by
  induction T with
  | zero => exact hG
  | succ T ih =>
    rw [inner_succ]
    exact good_relax (ih (by omega)) ((wf_insN x.1 _ hm hx).mono (by omega)) (by omega)
theorem good_mid {n : Nat} {x : It} {ch : List Int} {LM : LMt} (hG : GoodM n ch.length LM) (hx : opB x.1 = true) (h9 : x.2.1 ≤ 9) (pr : List Nat) : GoodM (n + 9) ch.length (midL x ch LM pr) := by
  unfold midL
  have H : ∀ L, GoodM (n + 9) ch.length L → GoodM (n + 9) ch.length (pr.foldl (entryStep x ch LM) L) := by
    induction pr with
    | nil => exact fun L h => h
    | cons i pr ih =>
      intro L h
      refine ih _ ?_
      unfold entryStep
      cases hq : LM[i]? with
      | none => exact h
      | some p =>
        have := hG p (List.mem_of_getElem? hq)
        exact good_inner h this.1 hx h9 _ (by have := maxT_len x (ch.drop p.1); simp at this; omega)
  exact H [] (fun p hp => by cases hp)
theorem grown_bel {W W' W'' : World} {b : Nat} (h : W.grownBy W' (some b)) (hb : Below W.heap.size W' W'') : W.grownBy W'' (some b) :=
  ⟨hb.os.trans h.os, hb.tape.trans h.tape, hb.output.trans h.output, Nat.le_trans h.size hb.size, fun k hk hne => (hb.block k hk).trans (h.block k hk hne)⟩

def Inv2 (w : World) (x : It) (ch : List Int) (LM : LMt) (iv cv : Value) (h0 b b2 Bx Bn r len k : Nat) (a : Act) (W : World) : Prop :=
  ∃ (ds pr : List Nat) (u : Nat → Value), pr.Nodup ∧ (∀ i, i ∈ pr → i < LM.length) ∧ F2 w x LM h0 b b2 Bx Bn r ds pr (midL x ch LM pr) W ∧ a = { tmps := fr2 iv cv h0 b Bx Bn r len k u, defers := dl ds }
def mu2 (r n : Nat) (W : World) : Nat := match W.heap[r]? with | some (.mapIter _ _ seen _) => n - seen.size | _ => 0

set_option maxRecDepth 100000 in
set_option maxHeartbeats 4000000 in
theorem round33 (w : World) (x : It) (ch : List Int) (LM : LMt) (iv cv : Value) (h0 b b2 Bx Bn r len k n : Nat) (hx : itB x = true) (hcv : Ints w cv ch) (hch : childrenB ch = true) (hn : n ≤ 800) (hG : GoodM n ch.length LM)
    (Q : Exit → Act → World → Prop) (a : Act) (W : World) (hI : Inv2 w x ch LM iv cv h0 b b2 Bx Bn r len k a W)
    (hexit : ∀ (ds pr : List Nat) (u : Nat → Value) (W' : World), F2 w x LM h0 b b2 Bx Bn r ds pr (midL x ch LM pr) W' → pr.Nodup → (∀ i, i ∈ pr → i < LM.length) → (∀ i, i < LM.length → i ∈ pr) → Q (.exit 2) { tmps := fr2 iv cv h0 b Bx Bn r len k u, defers := dl ds } W') :
    code33l.wpIn Fence.wide 0 Tryd.prog (Exit.then (fun a' W' => Inv2 w x ch LM iv cv h0 b b2 Bx Bn r len k a' W' ∧ mu2 r LM.length W' < mu2 r LM.length W) Q) a W := by
  obtain ⟨ds, pr, u, hnd, hsub, hF, rfl⟩ := hI
  have hFn : ∀ f, Fence.wide.fn f := fun _ => trivial
  unfold code33l
  dsimp only [rfLoop, hasRF, Tryd.f33, Option.getD, Option.bind, Bool.or_true, Bool.or_false, Bool.false_or, Bool.true_or, if_true]
  unfold fr2
  have HF := Lib.hid hF
  clear hF
  gi_wp2_with (refine wpListIn_next hFn rfl _ rfl b r (cm LM) pr rfl HF.out.now HF.out.it ?_ ?_)
  · intro hc
    have HC := Lib.hid hc
    clear hc
    gi_wp2
    refine hexit ds pr (fun i => (#[iv, cv, u 2, u 3, (.pointer (some ⟨h0, 0, none⟩)), (.bool false), (.map (some b)), u 7, (.pointer (some ⟨Bx, 0, none⟩)), (.pointer (some ⟨Bn, 0, none⟩)), u 10, u 11, u 12, u 13, u 14, u 15, u 16, u 17, u 18, u 19, u 20, iv, (.int .i64 len), (.int .i64 k), u 24, u 25, u 26, u 27, (.map (some b)), (.pointer (some ⟨r, 0, none⟩)), (.tuple #[.bool false]), (.bool false), u 32, u 33, u 34, u 35, u 36, u 37, u 38, u 39, u 40, u 41, u 42, u 43, u 44, u 45, u 46, u 47, u 48, u 49, u 50, u 51, u 52, u 53, u 54, u 55, u 56, u 57, u 58, u 59, u 60, u 61, u 62, u 63, u 64, u 65, u 66, u 67, u 68, u 69, u 70, u 71, u 72, u 73, u 74, u 75, u 76, u 77, u 78, u 79, u 80, u 81, u 82, u 83, u 84] : Array Value).getD i undef) W HF.out hnd hsub ?_
    exact fun i hi => cands_nil HC.out i (by rw [cm_len]; exact hi)
  · intro i pk pc w1 hp hns hw1
    have hF1 : F2 w x LM h0 b b2 Bx Bn r ds (pr ++ [i]) (midL x ch LM pr) (w1.putObj r (itObj b (cm LM) (pr ++ [i]))) := by
      rcases hw1 with rfl | rfl
      · exact HF.out.step i
      · exact HF.out.drew.step i
    have hmu : mu2 r LM.length (w1.putObj r (itObj b (cm LM) (pr ++ [i]))) = LM.length - (pr.length + 1) ∧ mu2 r LM.length W = LM.length - pr.length := by
      have e1 := hF1.it
      have e2 := HF.out.it
      unfold mu2
      rw [e1, e2]
      simp [itObj]
    obtain ⟨q, hq, hqe⟩ : ∃ q, LM[i]? = some q ∧ (pk, pc) = ((q.1 : Int), cntOf q.2) := by
      rw [cm_get] at hp
      cases hq : LM[i]? with
      | none => simp [hq] at hp
      | some q => rw [hq] at hp; exact ⟨q, rfl, by simpa using hp.symm⟩
    injection hqe with hq1 hq2
    subst hq1; subst hq2
    generalize w1.putObj r (itObj b (cm LM) (pr ++ [i])) = V at hF1 hmu ⊢
    have HF1 := Lib.hid hF1
    have HP := Lib.hid hp
    have HQ := Lib.hid hq
    have HMU := Lib.hid hmu
    have HNS := Lib.hid hns
    have hz1 : ∀ o1 : Obj, rowC ((V.alloc o1).alloc (.cells (arrC fun _ => 0) 66)) (V.heap.size + 1) = arrC fun _ => 0 := fun o1 => by
      rw [rowC_alloc, if_pos (by simp), ocells_cells]
    clear hF1 hp hq hmu hns hw1
    gi_wp2_with (first | (refine wpListIn_entry hFn rfl _ rfl b r i (cm LM) pr _ rfl HF1.out.now HF1.out.it HP.out ?_) | (refine wpListIn_store66 hFn rfl _ _ rfl (V.heap.size + 1) (arrC (cntOf q.2)) _ rfl rfl (hz1 _) (arrC_size _) (arrC_size _) (arrC_cells1 _) ?_))
    obtain ⟨c0, cap, rfl, hlc, hcm, hci, hcc⟩ := hcv
    have hq := (hG q (List.mem_of_getElem? HQ.out)).2
    have hV1 : Below w.heap.size w (((V.alloc (.cells #[.int .i64 q.1] 3)).alloc (.cells (arrC (cntOf q.2)) 66)).drew) := ((HF1.out.bel.alloc HF1.out.bel.size _).alloc (by have := HF1.out.bel.size; simp; omega) _).drew
    have hVk : Keeps V (((V.alloc (.cells #[.int .i64 q.1] 3)).alloc (.cells (arrC (cntOf q.2)) 66)).drew) := keeps_of_below (((Below.refl _ _).alloc (Nat.le_refl _) _).alloc (by simp) _).drew
    have hS0 : (((V.alloc (.cells #[.int .i64 q.1] 3)).alloc (.cells (arrC (cntOf q.2)) 66)).drew).cell? ⟨Bx, 0, none⟩ = some (.int .i64 x.1) ∧ (((V.alloc (.cells #[.int .i64 q.1] 3)).alloc (.cells (arrC (cntOf q.2)) 66)).drew).cell? ⟨Bx, 1, none⟩ = some (.int .i64 x.2.1) ∧ (((V.alloc (.cells #[.int .i64 q.1] 3)).alloc (.cells (arrC (cntOf q.2)) 66)).drew).cell? ⟨Bx, 2, none⟩ = some (.int .i64 x.2.2) ∧ (((V.alloc (.cells #[.int .i64 q.1] 3)).alloc (.cells (arrC (cntOf q.2)) 66)).drew).cell? ⟨V.heap.size, 0, none⟩ = some (.int .i64 q.1) :=
      ⟨hVk _ _ HF1.out.x0, hVk _ _ HF1.out.x1, hVk _ _ HF1.out.x2, by go_simp⟩
    have hV1k := Lib.hid hVk
    have HV1 := Lib.hid hV1
    clear hVk hV1
    obtain ⟨c1, hc1⟩ : ∃ c1, c1 = if cap = q.1 then c0 else c0.map (·.add q.1) := ⟨_, rfl⟩
    refine wpIn_region_call_lit 4 { tmps := #[iv, (.slice c0 ch.length cap), u 2, u 3, (.pointer (some ⟨h0, 0, none⟩)), (.bool false), (.map (some b)), u 7, (.pointer (some ⟨Bx, 0, none⟩)), (.pointer (some ⟨Bn, 0, none⟩)), (.pointer (some ⟨V.heap.size, 0, none⟩)), (.pointer (some ⟨V.heap.size + 1, 0, none⟩)), u 12, u 13, u 14, u 15, u 16, u 17, u 18, u 19, u 20, iv, (.int .i64 len), (.int .i64 k), u 24, u 25, u 26, u 27, (.map (some b)), (.pointer (some ⟨r, 0, none⟩)), (.tuple #[.bool true, .int .i64 q.1, .agg (arrC (cntOf q.2))]), (.bool true), (.tuple #[.int .i64 q.1, .agg (arrC (cntOf q.2))]), (.int .i64 q.1), (.agg (arrC (cntOf q.2))), (itV x), (.slice c0 ch.length cap), (.int .i64 q.1), (.slice c1 (ch.length - q.1) (cap - q.1)), u 39, u 40, u 41, u 42, u 43, u 44, u 45, u 46, u 47, u 48, u 49, u 50, u 51, u 52, u 53, u 54, u 55, u 56, u 57, u 58, u 59, u 60, u 61, u 62, u 63, u 64, u 65, u 66, u 67, u 68, u 69, u 70, u 71, u 72, u 73, u 74, u 75, u 76, u 77, u 78, u 79, u 80, u 81, u 82, u 83, u 84], defers := dl ds } (fun w' => w'.cell? ⟨Bx, 0, none⟩ = some (.int .i64 x.1) ∧ w'.cell? ⟨Bx, 1, none⟩ = some (.int .i64 x.2.1) ∧ w'.cell? ⟨Bx, 2, none⟩ = some (.int .i64 x.2.2) ∧ w'.cell? ⟨V.heap.size, 0, none⟩ = some (.int .i64 q.1))
      (by kernel_rfl) rfl rfl ?_ ?_ hS0 _ rfl rfl (by simp) 52 #[itV x, .slice c1 (ch.length - q.1) (cap - q.1)] ?_ _ _ (f52_any x _ _ ⟨_, _, _, rfl⟩) ?_
    · intro s hs
      match s, hs with
      | 0, _ => rfl
      | 1, _ => rfl
      | 2, _ => rfl
      | 3, _ => rfl
      | 4, _ => rfl
      | 5, _ => rfl
      | 6, _ => rfl
      | 7, _ => rfl
      | 8, _ => rfl
      | 9, _ => rfl
      | 10, _ => rfl
      | 11, _ => rfl
      | 12, _ => rfl
      | 13, _ => rfl
      | 14, _ => rfl
      | 15, _ => rfl
      | 16, _ => rfl
      | 17, _ => rfl
      | 18, _ => rfl
      | 19, _ => rfl
      | 20, _ => rfl
      | 21, _ => rfl
      | 22, _ => rfl
      | 23, _ => rfl
      | 24, _ => rfl
      | 25, _ => rfl
      | 26, _ => rfl
      | 27, _ => rfl
      | 28, _ => rfl
      | 29, _ => rfl
      | 30, _ => rfl
      | 31, _ => rfl
      | 32, _ => rfl
      | 33, _ => rfl
      | 34, _ => rfl
      | 35, hs => exact absurd rfl (hs 0 (by decide))
      | 36, hs => exact absurd rfl (hs 1 (by decide))
      | 37, hs => exact absurd rfl (hs 2 (by decide))
      | 38, hs => exact absurd rfl (hs 3 (by decide))
      | 39, _ => rfl
      | 40, _ => rfl
      | 41, _ => rfl
      | 42, _ => rfl
      | 43, _ => rfl
      | 44, _ => rfl
      | 45, _ => rfl
      | 46, _ => rfl
      | 47, _ => rfl
      | 48, _ => rfl
      | 49, _ => rfl
      | 50, _ => rfl
      | 51, _ => rfl
      | 52, _ => rfl
      | 53, _ => rfl
      | 54, _ => rfl
      | 55, _ => rfl
      | 56, _ => rfl
      | 57, _ => rfl
      | 58, _ => rfl
      | 59, _ => rfl
      | 60, _ => rfl
      | 61, _ => rfl
      | 62, _ => rfl
      | 63, _ => rfl
      | 64, _ => rfl
      | 65, _ => rfl
      | 66, _ => rfl
      | 67, _ => rfl
      | 68, _ => rfl
      | 69, _ => rfl
      | 70, _ => rfl
      | 71, _ => rfl
      | 72, _ => rfl
      | 73, _ => rfl
      | 74, _ => rfl
      | 75, _ => rfl
      | 76, _ => rfl
      | 77, _ => rfl
      | 78, _ => rfl
      | 79, _ => rfl
      | 80, _ => rfl
      | 81, _ => rfl
      | 82, _ => rfl
      | 83, _ => rfl
      | 84, _ => rfl
      | s + 85, _ => rfl
    · repeat' (first | exact trivial | refine And.intro ?_ ?_)
      all_goals first
        | (rw [if_pos rfl]; exact trivial)
        | (rw [if_neg (by decide)]; refine ⟨_, _, rfl, rfl, Or.inl ⟨rfl, fun w' hS => ?_⟩⟩)
      all_goals (obtain ⟨s1, s2, s3, s4⟩ := hS; clear hG hS0)
      all_goals go_simp
      all_goals first | rfl | exact hc1.symm
    · unfold itV
      go_simp
      done
    · rename_i K1 Q1 hK1
      show K1 { tmps := #[iv, (.slice c0 ch.length cap), u 2, u 3, (.pointer (some ⟨h0, 0, none⟩)), (.bool false), (.map (some b)), u 7, (.pointer (some ⟨Bx, 0, none⟩)), (.pointer (some ⟨Bn, 0, none⟩)), (.pointer (some ⟨V.heap.size, 0, none⟩)), (.pointer (some ⟨V.heap.size + 1, 0, none⟩)), u 12, u 13, u 14, u 15, u 16, u 17, u 18, u 19, u 20, iv, (.int .i64 len), (.int .i64 k), u 24, u 25, u 26, u 27, (.map (some b)), (.pointer (some ⟨r, 0, none⟩)), (.tuple #[.bool true, .int .i64 q.1, .agg (arrC (cntOf q.2))]), (.bool true), (.tuple #[.int .i64 q.1, .agg (arrC (cntOf q.2))]), (.int .i64 q.1), (.agg (arrC (cntOf q.2))), (itV x), (.slice c0 ch.length cap), (.int .i64 q.1), (.slice c1 (ch.length - q.1) (cap - q.1)), (.func (.func 68) #[] #[.pointer (some ⟨(((V.alloc (.cells #[.int .i64 q.1] 3)).alloc (.cells (arrC (cntOf q.2)) 66)).drew).heap.size, 0, none⟩), .pointer (some ⟨(((V.alloc (.cells #[.int .i64 q.1] 3)).alloc (.cells (arrC (cntOf q.2)) 66)).drew).heap.size + 1, 0, none⟩)]), u 40, u 41, u 42, u 43, u 44, u 45, u 46, u 47, u 48, u 49, u 50, u 51, u 52, u 53, u 54, u 55, u 56, u 57, u 58, u 59, u 60, u 61, u 62, u 63, u 64, u 65, u 66, u 67, u 68, u 69, u 70, u 71, u 72, u 73, u 74, u 75, u 76, u 77, u 78, u 79, u 80, u 81, u 82, u 83, u 84], defers := dl ds } _
      refine hK1 _ _ ?_
      clear hK1
      obtain ⟨Ws, hWs⟩ : ∃ Ws, Ws = ((((V.alloc (.cells #[.int .i64 q.1] 3)).alloc (.cells (arrC (cntOf q.2)) 66)).drew).alloc (.cells #[.int .i64 x.1, .int .i64 x.2.1, .int .i64 x.2.2] 59)).alloc (.cells #[.slice c1 (ch.length - q.1) (cap - q.1)] 26) := ⟨_, rfl⟩
      rw [← hWs]
      have hszs : (((V.alloc (.cells #[.int .i64 q.1] 3)).alloc (.cells (arrC (cntOf q.2)) 66)).drew).heap.size = V.heap.size + 2 := by simp
      rw [hszs]
      have HWS := Lib.hid hWs
      clear hWs hszs hS0
      have HC1 := Lib.hid hc1
      clear hc1
      have bWs : Below V.heap.size V Ws := by
        rw [HWS.out]
        exact ((((Below.refl _ _).alloc (Nat.le_refl _) _).alloc (by simp) _).drew.alloc (by simp; omega) _).alloc (by simp; omega) _
      have BWS := Lib.hid bWs
      have FWS := Lib.hid (HF1.out.below bWs)
      have hb0 : Ws.cell? ⟨V.heap.size + 2, 0, none⟩ = some (.int .i64 x.1) ∧ Ws.cell? ⟨V.heap.size + 2, 2, none⟩ = some (.int .i64 x.2.2) ∧ Ws.cell? ⟨V.heap.size + 2 + 1, 0, none⟩ = some (.slice c1 (ch.length - q.1) (cap - q.1)) ∧ Ws.cell? ⟨V.heap.size, 0, none⟩ = some (.int .i64 q.1) ∧ rowC Ws (V.heap.size + 1) = arrC (cntOf q.2) ∧ Ws.heap.size = V.heap.size + 2 + 2 := by
        rw [HWS.out]
        refine ⟨by go_simp, by go_simp, by go_simp, by go_simp, ?_, by simp⟩
        rw [rowC_alloc, if_neg (by simp), rowC_alloc, if_neg (by simp), rowC_drew, rowC_alloc, if_pos (by simp), ocells_cells]
      have HB0 := Lib.hid hb0
      have hcells : ∃ bb oo, (ch.drop q.1 ≠ [] → c1 = some ⟨bb, oo, none⟩) ∧ ∀ i y, (ch.drop q.1)[i]? = some y → Ws.cell? ⟨bb, oo + i, none⟩ = some (.int .i64 y) := by
        by_cases hne : ch.drop q.1 = []
        · exact ⟨0, 0, fun h => absurd hne h, fun i y hy => by rw [hne] at hy; simp at hy⟩
        · have hlt : q.1 < ch.length := by
            rcases Nat.lt_or_ge q.1 ch.length with h | h
            · exact h
            · exact absurd (List.drop_eq_nil_of_le h) hne
          obtain ⟨bb, oo, rfl, hcl⟩ := hcc (by intro h; rw [h] at hlt; simp at hlt)
          refine ⟨bb, oo + q.1, fun _ => ?_, fun i y hy => ?_⟩
          · rw [HC1.out, if_neg (by omega)]; simp [Addr.add, go_sem]
          · rw [List.getElem?_drop] at hy
            have := keeps_of_below (FWS.out.bel) _ _ (hcl _ _ hy)
            rw [← this, Nat.add_assoc]
      obtain ⟨bb, oo, hca, hcl⟩ := hcells
      have hit := hx
      simp only [itB, Bool.and_eq_true, decide_eq_true_eq] at hit
      have hopx := hit.1.1.1.1
      have hop := hopx
      simp only [opB, Bool.and_eq_true, decide_eq_true_eq] at hop
      have hlen : ch.length ≤ 30 := by simp only [childrenB, Bool.and_eq_true, decide_eq_true_eq] at hch; exact hch.2
      have hwf := (hG q (List.mem_of_getElem? HQ.out)).1
      have hGm : GoodM (n + 9) ch.length (midL x ch LM pr) := good_mid hG hopx (by omega) pr
      have HWF := Lib.hid hwf
      have HGM := Lib.hid hGm
      have HCL := Lib.hid hcl
      have HCA := Lib.hid hca
      clear bWs hb0 hcl hca hwf hGm hcc
      have hdl : (ch.drop q.1).length = ch.length - q.1 := by simp
      have HDL := Lib.hid hdl
      have hmx := maxT_len x (ch.drop q.1)
      have hmy := maxT_le x (ch.drop q.1)
      rw [hdl] at hmx
      clear hdl
      gi_wp2_with (refine range68 _ _ _ _ (V.heap.size + 2) (V.heap.size + 2 + 1) rfl x c1 (cap - q.1) bb oo (ch.drop q.1) (In33 x q.1 q.2 (midL x ch LM pr) b2 Ws) ?_ ?_ HCA.out (by omega) (by rw [HDL.out]; omega) ?_ (fun t => { tmps := #[iv, (.slice c0 ch.length cap), u 2, u 3, (.pointer (some ⟨h0, 0, none⟩)), (.bool false), (.map (some b)), u 7, (.pointer (some ⟨Bx, 0, none⟩)), (.pointer (some ⟨Bn, 0, none⟩)), (.pointer (some ⟨V.heap.size, 0, none⟩)), (.pointer (some ⟨V.heap.size + 1, 0, none⟩)), (.int .i64 t), u 13, u 14, u 15, u 16, u 17, u 18, u 19, u 20, iv, (.int .i64 len), (.int .i64 k), u 24, u 25, u 26, u 27, (.map (some b)), (.pointer (some ⟨r, 0, none⟩)), (.tuple #[.bool true, .int .i64 q.1, .agg (arrC (cntOf q.2))]), (.bool true), (.tuple #[.int .i64 q.1, .agg (arrC (cntOf q.2))]), (.int .i64 q.1), (.agg (arrC (cntOf q.2))), (itV x), (.slice c0 ch.length cap), (.int .i64 q.1), (.slice c1 (ch.length - q.1) (cap - q.1)), (.func (.func 68) #[] #[.pointer (some ⟨V.heap.size + 2, 0, none⟩), .pointer (some ⟨V.heap.size + 2 + 1, 0, none⟩)]), (.int .i64 t), u 41, u 42, u 43, u 44, u 45, u 46, u 47, u 48, u 49, u 50, u 51, u 52, u 53, u 54, u 55, u 56, u 57, u 58, u 59, u 60, u 61, u 62, u 63, u 64, u 65, u 66, u 67, u 68, u 69, u 70, u 71, u 72, u 73, u 74, u 75, u 76, u 77, u 78, u 79, u 80, u 81, u 82, u 83, u 84], defers := [] }) ?_ ?_ ?_)
      · intro t Wa Wb h hb
        exact ⟨grown_bel h.1 hb, (hb.block _ (lt_of_heap FWS.out.nxt)).trans h.2⟩
      · intro t Wa h
        have kp : ∀ p v, Ws.cell? p = some v → Wa.cell? p = some v := fun p v hc => cell_grown h.1 FWS.out.nxt hc
        exact ⟨kp _ _ HB0.out.1, kp _ _ HB0.out.2.1, by rw [HDL.out]; exact kp _ _ HB0.out.2.2.1, fun i y hy => kp _ _ (HCL.out i y hy)⟩
      · exact ⟨World.grownBy.refl _ _, by unfold inner; exact FWS.out.nxt⟩
      · intro t Wa K hK
        gi_wp2
        exact hK
      · intro t Wa ht hi hsz
        refine body33 x q.1 q.2 (midL x ch LM pr) b2 Bx Bn V.heap.size (V.heap.size + 1) Ws Wa t n ch.length ⟨FWS.out.x0, FWS.out.x1, FWS.out.n0, HB0.out.2.2.2.1, HB0.out.2.2.2.2.1⟩ FWS.out.nxt hi hsz x.1.toNat x.2.1 x.2.2 ?_ (by omega) (by omega) HWF.out (by omega) (good_inner HGM.out HWF.out hopx (by omega) t (by omega)) (by omega) (by omega) hlen _ _ _ _ _ _ _ _ _ _ _ _ _ _ _ _ _ _ _ _ _ _ _ _ _ _ _ _ _ _ _ _ _ _ _ _ _ _ _ _ _ _ _ _ _ _ _ _ _ _ _ _ _ _ _ _ _ _ _ _ _ _ _ _ _ _ _ _ _ _ _ _ _ _ _ _ _ _ _ _
        rw [Int.toNat_of_nonneg hop.1]
      · intro Wa hi hd hs
        have hgo := FWS.out.grown hi.1 hi.2
        have hlast : inner x q.1 q.2 (maxT x (ch.drop q.1) + 1) (midL x ch LM pr) = midL x ch LM (pr ++ [i]) := by
          rw [midL_snoc]; unfold entryStep; rw [HQ.out]
        rw [hlast] at hgo
        gi_wp2
        refine ⟨⟨Ws.heap.size :: ds, pr ++ [i], fun s => (#[iv, (.slice c0 ch.length cap), u 2, u 3, (.pointer (some ⟨h0, 0, none⟩)), (.bool false), (.map (some b)), u 7, (.pointer (some ⟨Bx, 0, none⟩)), (.pointer (some ⟨Bn, 0, none⟩)), (.pointer (some ⟨V.heap.size, 0, none⟩)), (.pointer (some ⟨V.heap.size + 1, 0, none⟩)), u 12, u 13, u 14, u 15, u 16, u 17, u 18, u 19, u 20, iv, (.int .i64 len), (.int .i64 k), u 24, u 25, u 26, u 27, (.map (some b)), (.pointer (some ⟨r, 0, none⟩)), (.tuple #[.bool true, .int .i64 q.1, .agg (arrC (cntOf q.2))]), (.bool true), (.tuple #[.int .i64 q.1, .agg (arrC (cntOf q.2))]), (.int .i64 q.1), (.agg (arrC (cntOf q.2))), (itV x), (.slice c0 ch.length cap), (.int .i64 q.1), (.slice c1 (ch.length - q.1) (cap - q.1)), (.func (.func 68) #[] #[.pointer (some ⟨V.heap.size + 2, 0, none⟩), .pointer (some ⟨V.heap.size + 2 + 1, 0, none⟩)]), u 40, u 41, u 42, u 43, u 44, u 45, u 46, u 47, u 48, u 49, u 50, u 51, u 52, u 53, u 54, u 55, u 56, u 57, u 58, u 59, u 60, u 61, u 62, u 63, u 64, u 65, u 66, u 67, u 68, u 69, u 70, u 71, u 72, u 73, u 74, u 75, u 76, u 77, u 78, u 79, u 80, u 81, u 82, u 83, u 84] : Array Value).getD s undef, ?_, ?_, ?_, rfl⟩, ?_⟩
        · exact List.nodup_append.2 ⟨hnd, by simp, fun a ha b hb => by rw [List.mem_singleton] at hb; subst hb; rintro rfl; exact HNS.out ha⟩
        · intro a ha
          rcases List.mem_append.1 ha with ha | ha
          · exact hsub a ha
          · rw [List.mem_singleton] at ha; subst ha; exact (List.getElem?_eq_some_iff.1 HQ.out).1
        · refine { hgo with dok := ⟨List.nodup_cons.2 ⟨fun hm => ?_, hgo.dok.nd⟩, fun D hD => ?_⟩ }
          · exact absurd (lt_of_heap (FWS.out.dok.at_ _ hm).1) (by omega)
          · rcases List.mem_cons.1 hD with rfl | hD
            · exact ⟨hd, FWS.out.bel.size⟩
            · exact hgo.dok.at_ D hD
        · have hlt := List.Nodup.length_le_of_subset (l₁ := pr ++ [i]) (l₂ := List.range LM.length) ?_ ?_
          · rw [List.length_append, List.length_range] at hlt
            have e1 : mu2 r LM.length Wa = mu2 r LM.length V := by
              unfold mu2; rw [hgo.it, HF1.out.it]
            rw [e1, HMU.out.1, HMU.out.2]
            simp at hlt; omega
          · exact List.nodup_append.2 ⟨hnd, by simp, fun a ha b hb => by rw [List.mem_singleton] at hb; subst hb; rintro rfl; exact HNS.out ha⟩
          · intro a ha
            rw [List.mem_range]
            rcases List.mem_append.1 ha with ha | ha
            · exact hsub a ha
            · rw [List.mem_singleton] at ha; subst ha; exact (List.getElem?_eq_some_iff.1 HQ.out).1
end Go.Proofs.YteilaajjpjhijaaDoor
