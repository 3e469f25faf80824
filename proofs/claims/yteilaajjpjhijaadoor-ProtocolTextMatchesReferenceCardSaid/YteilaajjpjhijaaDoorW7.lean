/- Walk of the body of divide's innermost loop. -/
import Derived.Test.YteilaajjpjhijaaDoorIn
namespace Go.Proofs.YteilaajjpjhijaaDoor
open Go.RowKit PSpec
attribute [local go_sem] Oper.semAt_some

/-- the body of the first range over a function -/
def rfBody : Code → Option Code
  | .seq a b => match rfBody a with | some c => some c | none => rfBody b
  | .block _ c => rfBody c
  | .loop c => rfBody c
  | .scope c => rfBody c
  | .rangeFunc _ _ _ body => some body
  | _ => none
noncomputable def code33b : Code := ((Tryd.f33.body.bind rfBody).getD .skip)

structure Fx (x : It) (a : Nat) (m : List Int) (b2 Bx Bn Ba Bc : Nat) (W : World) : Prop where
  x0 : W.cell? ⟨Bx, 0, none⟩ = some (.int .i64 x.1)
  x1 : W.cell? ⟨Bx, 1, none⟩ = some (.int .i64 x.2.1)
  n0 : W.cell? ⟨Bn, 0, none⟩ = some (.map (some b2))
  a0 : W.cell? ⟨Ba, 0, none⟩ = some (.int .i64 a)
  c0 : rowC W Bc = arrC (cntOf m)

def In33 (x : It) (a : Nat) (m : List Int) (L2 : LMt) (b2 : Nat) (Ws : World) (t : Nat) (W : World) : Prop :=
  Ws.grownBy W (some b2) ∧ W.heap[b2]? = some (mapObj (cm (inner x a m t L2)))

set_option maxRecDepth 100000 in
set_option maxHeartbeats 4000000 in
theorem body33 (x : It) (a : Nat) (m : List Int) (L2 : LMt) (b2 Bx Bn Ba Bc : Nat) (Ws W : World) (t n len : Nat)
    (hF : Fx x a m b2 Bx Bn Ba Bc Ws) (hb2 : Ws.heap[b2]? = some (mapObj (cm L2))) (hi : In33 x a m L2 b2 Ws t W) (hsz : Ws.heap.size + 1 < W.heap.size) (j : Nat) (lst mst : Int) (hx : x = ((j : Int), lst, mst)) (hj : j < 12) (hlst : 0 ≤ lst ∧ lst ≤ 9) (hm : Wf n m) (hn : n ≤ 900) (hG : GoodM (n + 9) len (inner x a m t L2)) (ht : t ≤ 9) (hat : a + t ≤ len) (hlen : len ≤ 30)
    (u0 u1 u2 u3 u4 u5 u6 u7 u13 u14 u15 u16 u17 u18 u19 u20 u21 u22 u23 u24 u25 u26 u27 u28 u29 u30 u31 u32 u33 u34 u35 u36 u37 u38 u39 u40 u41 u42 u43 u44 u45 u46 u47 u48 u49 u50 u51 u52 u53 u54 u55 u56 u57 u58 u59 u60 u61 u62 u63 u64 u65 u66 u67 u68 u69 u70 u71 u72 u73 u74 u75 u76 u77 u78 u79 u80 u81 u82 u83 u84 : Value) :
    code33b.wpIn (Fence.wide.inRound (Ws.heap.size + 1)) 0 Tryd.prog (BodyEnd Ws.heap.size (In33 x a m L2 b2 Ws) t W) { tmps := #[u0, u1, u2, u3, u4, u5, u6, u7, (.pointer (some ⟨Bx, 0, none⟩)), (.pointer (some ⟨Bn, 0, none⟩)), (.pointer (some ⟨Ba, 0, none⟩)), (.pointer (some ⟨Bc, 0, none⟩)), (.int .i64 t), u13, u14, u15, u16, u17, u18, u19, u20, u21, u22, u23, u24, u25, u26, u27, u28, u29, u30, u31, u32, u33, u34, u35, u36, u37, u38, u39, u40, u41, u42, u43, u44, u45, u46, u47, u48, u49, u50, u51, u52, u53, u54, u55, u56, u57, u58, u59, u60, u61, u62, u63, u64, u65, u66, u67, u68, u69, u70, u71, u72, u73, u74, u75, u76, u77, u78, u79, u80, u81, u82, u83, u84], defers := [] } W := by
  subst hx
  unfold code33b
  dsimp only [rfBody, Tryd.f33, Option.getD, Option.bind]
  have hFn : ∀ f, (Fence.wide.inRound (Ws.heap.size + 1)).fn f := fun _ => trivial
  obtain ⟨Lc, hLc⟩ : ∃ Lc, Lc = inner ((j : Int), lst, mst) a m t L2 := ⟨_, rfl⟩
  obtain ⟨hg, hmap⟩ := hi
  rw [← hLc] at hmap hG
  have HLc := Lib.hid hLc
  clear hLc
  have hc0 : rowC W Bc = arrC (cntOf m) := rowC_grown hg hb2 hF.c0 (by rw [arrC_size]; omega)
  have hz : rowC (W.alloc (.cells (arrC fun _ => 0) 66)) W.heap.size = arrC fun _ => 0 := by go_simp
  have HG := Lib.hid hg
  have HM := Lib.hid hmap
  have HFx := Lib.hid hF
  clear hg hmap hF
  -- WALK
  -- WALK
  -- WALK
  -- WALK
  -- WALK
  -- WALK
  -- WALK
  -- WALK
  -- WALK
  -- WALK
  gi_wp2_with (first | (refine wpListIn_load66 hFn rfl _ rfl _ rfl _ hc0 (arrC_size _) ?_) | (refine wpListIn_store66 hFn rfl _ _ rfl W.heap.size (arrC (cntOf m)) _ rfl rfl hz (arrC_size _) (arrC_size _) (arrC_cells1 _) ?_))
  obtain ⟨k, hk⟩ : ∃ k : Nat, k = (lst - (t : Int)).toNat := ⟨_, rfl⟩
  have hS0 : ((W.alloc (.cells (arrC (cntOf m)) 66)).drew).cell? ⟨Bx, 0, none⟩ = some (.int .i64 j) ∧ ((W.alloc (.cells (arrC (cntOf m)) 66)).drew).cell? ⟨Bx, 1, none⟩ = some (.int .i64 lst) ∧ ((W.alloc (.cells (arrC (cntOf m)) 66)).drew).cell? ⟨W.heap.size, j, none⟩ = some (.int .i64 (cntOf m j)) := by
    have kb : Keeps W ((W.alloc (.cells (arrC (cntOf m)) 66)).drew) := keeps_of_below ((Below.refl _ _).alloc (Nat.le_refl _) _).drew
    refine ⟨kb _ _ (cell_grown HG.out hb2 HFx.out.x0), kb _ _ (cell_grown HG.out hb2 HFx.out.x1), rowC_cell j _ ?_⟩
    rw [rowC_drew, rowC_alloc, if_pos rfl, ocells_cells]
    exact arrC_get _ _ hj
  have hkI : (k : Int) = if (t : Int) ≤ lst then lst - t else 0 := by split <;> omega
  have hkd : (0 : Int) ≤ k ∧ (k : Int) ≤ 9 := by split at hkI <;> omega
  have hcj := cnt_small hm (by omega) j
  have HkI := Lib.hid hkI
  clear hk hkI
  refine wpIn_region_fin_lit 11 { tmps := #[u0, u1, u2, u3, u4, u5, u6, u7, (.pointer (some ⟨Bx, 0, none⟩)), (.pointer (some ⟨Bn, 0, none⟩)), (.pointer (some ⟨Ba, 0, none⟩)), (.pointer (some ⟨Bc, 0, none⟩)), (.int .i64 t), (.pointer (some ⟨W.heap.size, 0, none⟩)), u14, u15, u16, u17, u18, u19, u20, u21, u22, u23, u24, u25, u26, u27, u28, u29, u30, u31, u32, u33, u34, u35, u36, u37, u38, u39, u40, (.agg (arrC (cntOf m))), (.pointer (some ⟨Bx, 0, none⟩)), (.int .i64 j), (.pointer (some ⟨W.heap.size, j, none⟩)), (.int .i64 (cntOf m j)), (.pointer (some ⟨Bx, 1, none⟩)), (.int .i64 lst), (.int .i64 t), (.int .i64 (lst - t)), (.int .i64 k), (.int .i64 (cntOf m j + k)), (.pointer (some ⟨W.heap.size, j, none⟩)), u53, u54, u55, u56, u57, u58, u59, u60, u61, u62, u63, u64, u65, u66, u67, u68, u69, u70, u71, u72, u73, u74, u75, u76, u77, u78, u79, u80, u81, u82, u83, u84], defers := [] } (fun w' => w'.cell? ⟨Bx, 0, none⟩ = some (.int .i64 j) ∧ w'.cell? ⟨Bx, 1, none⟩ = some (.int .i64 lst) ∧ w'.cell? ⟨W.heap.size, j, none⟩ = some (.int .i64 (cntOf m j)))
    hFn (by kernel_rfl) (by kernel_rfl) rfl rfl ?_ ?_ hS0 _ rfl rfl rfl (by simp) ?w2 ?_ ?_
  · intro s hs
    match s, hs with
    | 0, _ => rfl
    | 1, _ => rfl
    | 2, _ => rfl
    | 3, _ => rfl
    | 4, _ => rfl
    | 5, _ => rfl
    | 6, _ => rfl
    | 7, _ => rfl
    | 8, _ => rfl
    | 9, _ => rfl
    | 10, _ => rfl
    | 11, _ => rfl
    | 12, _ => rfl
    | 13, _ => rfl
    | 14, _ => rfl
    | 15, _ => rfl
    | 16, _ => rfl
    | 17, _ => rfl
    | 18, _ => rfl
    | 19, _ => rfl
    | 20, _ => rfl
    | 21, _ => rfl
    | 22, _ => rfl
    | 23, _ => rfl
    | 24, _ => rfl
    | 25, _ => rfl
    | 26, _ => rfl
    | 27, _ => rfl
    | 28, _ => rfl
    | 29, _ => rfl
    | 30, _ => rfl
    | 31, _ => rfl
    | 32, _ => rfl
    | 33, _ => rfl
    | 34, _ => rfl
    | 35, _ => rfl
    | 36, _ => rfl
    | 37, _ => rfl
    | 38, _ => rfl
    | 39, _ => rfl
    | 40, _ => rfl
    | 41, _ => rfl
    | 42, hs => exact absurd rfl (hs 0 (by decide))
    | 43, hs => exact absurd rfl (hs 1 (by decide))
    | 44, hs => exact absurd rfl (hs 2 (by decide))
    | 45, hs => exact absurd rfl (hs 3 (by decide))
    | 46, hs => exact absurd rfl (hs 4 (by decide))
    | 47, hs => exact absurd rfl (hs 5 (by decide))
    | 48, hs => exact absurd rfl (hs 6 (by decide))
    | 49, hs => exact absurd rfl (hs 7 (by decide))
    | 50, hs => exact absurd rfl (hs 8 (by decide))
    | 51, hs => exact absurd rfl (hs 9 (by decide))
    | 52, hs => exact absurd rfl (hs 10 (by decide))
    | 53, _ => rfl
    | 54, _ => rfl
    | 55, _ => rfl
    | 56, _ => rfl
    | 57, _ => rfl
    | 58, _ => rfl
    | 59, _ => rfl
    | 60, _ => rfl
    | 61, _ => rfl
    | 62, _ => rfl
    | 63, _ => rfl
    | 64, _ => rfl
    | 65, _ => rfl
    | 66, _ => rfl
    | 67, _ => rfl
    | 68, _ => rfl
    | 69, _ => rfl
    | 70, _ => rfl
    | 71, _ => rfl
    | 72, _ => rfl
    | 73, _ => rfl
    | 74, _ => rfl
    | 75, _ => rfl
    | 76, _ => rfl
    | 77, _ => rfl
    | 78, _ => rfl
    | 79, _ => rfl
    | 80, _ => rfl
    | 81, _ => rfl
    | 82, _ => rfl
    | 83, _ => rfl
    | 84, _ => rfl
    | s + 85, _ => rfl
  · repeat' (first | exact trivial | refine And.intro ?_ ?_)
    all_goals first
      | (rw [if_pos rfl]; exact trivial)
      | (rw [if_neg (by decide)]; refine ⟨_, _, rfl, rfl, Or.inl ⟨rfl, fun w' hS => ?_⟩⟩)
    all_goals (obtain ⟨s1, s2, s3⟩ := hS; clear hG hS0)
    all_goals first
      | (go_simp; done)
      | skip
    all_goals go_simp
    all_goals first
      | (intro h; omega)
      | exact IntWalk.i64_in _ (by omega)
      | (rw [HkI.out]; split <;> split <;> omega)
  case w2 => exact ((W.alloc (.cells (arrC (cntOf m)) 66)).drew).setCell ⟨W.heap.size, j, none⟩ (.int .i64 (cntOf m j + k))
  · go_simp
  · have hB12 : Below W.heap.size W (((W.alloc (.cells (arrC (cntOf m)) 66)).drew).setCell ⟨W.heap.size, j, none⟩ (.int .i64 (cntOf m j + k))) :=
      ((Below.refl _ _).alloc (Nat.le_refl _) _).drew.setCell (Nat.le_refl _) _
    have hr12 : rowC (((W.alloc (.cells (arrC (cntOf m)) 66)).drew).setCell ⟨W.heap.size, j, none⟩ (.int .i64 (cntOf m j + k))) W.heap.size = arrC (cntOf (insN j k m)) := by
      rw [rowC_setCell, if_pos rfl, rowC_drew, rowC_alloc, if_pos rfl, ocells_cells, arrC_set _ _ _ hj]
      refine arrC_congr _ _ fun i _ => ?_
      rw [cnt_insN]
      by_cases e : i = j
      · subst e; simp
      · have e' : ¬ (j : Int) = (i : Int) := by omega
        rw [if_neg e, if_neg e']; omega
    have hz12 : W.heap.size < (((W.alloc (.cells (arrC (cntOf m)) 66)).drew).setCell ⟨W.heap.size, j, none⟩ (.int .i64 (cntOf m j + k))).heap.size := by simp [World.setCell]
    clear hS0
    generalize (((W.alloc (.cells (arrC (cntOf m)) 66)).drew).setCell ⟨W.heap.size, j, none⟩ (.int .i64 (cntOf m j + k))) = V at hB12 hr12 hz12 ⊢
    have HB12 := Lib.hid hB12
    have n0 := keeps_of_below hB12 _ _ (cell_grown HG.out hb2 HFx.out.n0)
    have a0 := keeps_of_below hB12 _ _ (cell_grown HG.out hb2 HFx.out.a0)
    have hbV : V.heap[b2]? = some (mapObj (cm Lc)) := (hB12.block b2 (by have := HG.out.size; have := (Array.getElem?_eq_some_iff.1 hb2).1; omega)).trans HM.out
    have HbV := Lib.hid hbV
    have hlk := lk_cm Lc (a + t)
    rw [show ((a + t : Nat) : Int) = (a : Int) + (t : Int) by omega] at hlk
    have hz2 : rowC (V.alloc (.cells (arrC fun _ => 0) 66)) V.heap.size = arrC fun _ => 0 := by go_simp
    have ka : ∀ o1 : Obj, Keeps V (V.alloc o1) := fun o1 => keeps_of_below ((Below.refl _ _).alloc (Nat.le_refl _) _)
    have n1 := fun o1 => ka o1 _ _ n0
    have a1 := fun o1 => ka o1 _ _ a0
    have d1 : ∀ o1 : Obj, rowC (V.alloc o1) W.heap.size = arrC (cntOf (insN j k m)) := fun o1 => by rw [rowC_alloc, if_neg (by omega)]; exact hr12
    have HbA : Hid (∀ o1 : Obj, (V.alloc o1).heap[b2]? = some (mapObj (cm Lc))) := fun o1 => (Below.heap_alloc V o1 b2 (Array.getElem?_eq_some_iff.1 hbV).1).trans hbV
    have ek : (lst - (t : Int)).toNat = k := by have := HkI.out; split at this <;> omega
    have EK := Lib.hid ek
    clear hB12 hbV hc0 hz ka ek
    have fin : ∀ (Z : World), Below V.heap.size V Z → relax Lc (a + t) (insN j k m) = upM Lc (a + t) (insN j k m) →
        In33 ((j : Int), lst, mst) a m L2 b2 Ws (t + 1) (Z.putObj b2 (mapObj (up (cm Lc) ((a : Int) + (t : Int)) (cntOf (insN j k m))))) ∧
        (Z.putObj b2 (mapObj (up (cm Lc) ((a : Int) + (t : Int)) (cntOf (insN j k m))))).heap[Ws.heap.size]? = W.heap[Ws.heap.size]? ∧
        (Z.putObj b2 (mapObj (up (cm Lc) ((a : Int) + (t : Int)) (cntOf (insN j k m))))).heap[Ws.heap.size + 1]? = W.heap[Ws.heap.size + 1]? := by
      intro Z hZ hrel
      have hlt2 : b2 < Ws.heap.size := (Array.getElem?_eq_some_iff.1 hb2).1
      have hWZ : Below W.heap.size W Z := HB12.out.trans (hZ.mono HB12.out.size)
      refine ⟨⟨grown_put (grown_below HG.out hWZ) _, ?_⟩, ?_, ?_⟩
      · rw [World.putObj_heap_same (by have := HG.out.size; have := hWZ.size; omega), show (a : Int) + (t : Int) = ((a + t : Nat) : Int) by omega, up_cm, ← hrel, inner_succ, ← HLc.out]
        dsimp only
        rw [EK.out]
      · rw [World.putObj_heap_other (by omega)]; exact hWZ.block _ (by omega)
      · rw [World.putObj_heap_other (by omega)]; exact hWZ.block _ (by omega)
    have HFIN := Lib.hid fin
    clear fin
    cases hlm : lkM Lc (a + t) with
    | none =>
      rw [hlm] at hlk
      simp only [Option.map_none] at hlk
      have hrel : relax Lc (a + t) (insN j k m) = upM Lc (a + t) (insN j k m) := by unfold relax; rw [hlm]
      have HREL := Lib.hid hrel
      have HLK := Lib.hid hlk
      clear hlm hlk hrel
      gi_wp2_with (first | (refine wpListIn_lookup96 hFn rfl _ _ rfl b2 (cm Lc) ((a : Int) + (t : Int)) rfl rfl HbV.out ?_; rw [HLK.out]; dsimp only [Option.getD, Option.isSome]) | (refine wpListIn_store66 hFn rfl _ _ rfl V.heap.size (arrC fun _ => 0) _ rfl rfl hz2 (arrC_size _) (arrC_size _) (arrC_cells1 _) ?_) | (refine wpListIn_load66 hFn rfl _ rfl _ rfl _ (d1 _) (arrC_size _) ?_) | (refine wpListIn_update96 hFn rfl _ _ _ (.inl rfl) b2 (cm Lc) ((a : Int) + (t : Int)) (cntOf (insN j k m)) rfl rfl rfl (HbA.out _) ?_))
      exact HFIN.out _ ((Below.refl _ _).alloc (Nat.le_refl _) _) HREL.out
    | some m0 =>
      rw [hlm] at hlk
      simp only [Option.map_some] at hlk
      have hw0 : Wf (n + 9) m0 := (hG _ (lkM_mem hlm)).1
      have hw1 : Wf (n + 9) (insN j k m) := (wf_insN (j : Int) k hm (opB_mk (by omega) (by omega))).mono (by omega)
      have hcb := cmpC_bef hw1 hw0
      have hs0 := cnt_small hw0 (by omega)
      have hs1 := cnt_small hw1 (by omega)
      have e1 : rowC (V.alloc (.cells (arrC (cntOf m0)) 66)) V.heap.size = arrC (cntOf m0) := by go_simp
      have HLM := Lib.hid hlm
      have HLK := Lib.hid hlk
      have HCB := Lib.hid hcb
      clear hlm hlk hcb
      by_cases hbf : befB (insN j k m) m0 = true
      · have hrel : relax Lc (a + t) (insN j k m) = upM Lc (a + t) (insN j k m) := by unfold relax; rw [HLM.out]; exact if_pos hbf
        have HREL := Lib.hid hrel
        have hcc := HCB.out.2 hbf
        clear hrel hbf
        gi_wp2_with (first | (refine wpListIn_lookup96 hFn rfl _ _ rfl b2 (cm Lc) ((a : Int) + (t : Int)) rfl rfl HbV.out ?_; rw [HLK.out]; dsimp only [Option.getD, Option.isSome]) | (refine wpListIn_store66 hFn rfl _ _ rfl V.heap.size (arrC (cntOf m0)) _ rfl rfl hz2 (arrC_size _) (arrC_size _) (arrC_cells1 _) ?_) | (refine wpListIn_load66G hFn rfl _ rfl _ rfl _ e1 (arrC_size _) ?_) | (refine wpListIn_load66G hFn rfl _ rfl _ rfl _ (d1 _) (arrC_size _) ?_) | (refine ⟨rfl, ?_⟩; gi_at_call 35; refine (CallsIn.inRound _ (callsIn_wide.2 (f35_any _ _ hs1 hs0 _))).mono ?_; rintro e V1 ⟨rfl, hb1⟩; have n2 := keeps_of_below hb1 _ _ (n1 _); have a2 := keeps_of_below hb1 _ _ (a1 _); have d2 := (rowC_below hb1 (by simp; omega)).trans (d1 _); have m2 := Lib.hid ((hb1.block b2 (by have := (Array.getElem?_eq_some_iff.1 HbV.out).1; simp; omega)).trans (HbA.out _)); clear n1 a1 d1 e1) | (refine wpListIn_load66 hFn rfl _ rfl _ rfl _ d2 (arrC_size _) ?_) | (refine wpListIn_update96 hFn rfl _ _ _ (.inl rfl) b2 (cm Lc) ((a : Int) + (t : Int)) (cntOf (insN j k m)) rfl rfl rfl m2.out ?_))
        exact HFIN.out _ (((Below.refl _ _).alloc (Nat.le_refl _) _).trans (hb1.mono (by simp))) HREL.out
      · have hrel : relax Lc (a + t) (insN j k m) = Lc := by unfold relax; rw [HLM.out]; exact if_neg hbf
        have hcc : ¬ cmpC (cntOf (insN j k m)) (cntOf m0) < 0 := fun h => hbf (HCB.out.1 h)
        have HREL := Lib.hid hrel
        clear hrel hbf
        gi_wp2_with (first | (refine wpListIn_lookup96 hFn rfl _ _ rfl b2 (cm Lc) ((a : Int) + (t : Int)) rfl rfl HbV.out ?_; rw [HLK.out]; dsimp only [Option.getD, Option.isSome]) | (refine wpListIn_store66 hFn rfl _ _ rfl V.heap.size (arrC (cntOf m0)) _ rfl rfl hz2 (arrC_size _) (arrC_size _) (arrC_cells1 _) ?_) | (refine wpListIn_load66G hFn rfl _ rfl _ rfl _ e1 (arrC_size _) ?_) | (refine wpListIn_load66G hFn rfl _ rfl _ rfl _ (d1 _) (arrC_size _) ?_) | (refine ⟨rfl, ?_⟩; gi_at_call 35; refine (CallsIn.inRound _ (callsIn_wide.2 (f35_any _ _ hs1 hs0 _))).mono ?_; rintro e V1 ⟨rfl, hb1⟩))
        have hV1 : Below V.heap.size V V1 := ((Below.refl _ _).alloc (Nat.le_refl _) _).trans (hb1.mono (by simp))
        have hWZ : Below W.heap.size W V1 := HB12.out.trans (hV1.mono HB12.out.size)
        refine ⟨⟨grown_below HG.out hWZ, ?_⟩, hWZ.block _ (by omega), hWZ.block _ (by omega)⟩
        rw [inner_succ, ← HLc.out]
        dsimp only
        rw [EK.out, HREL.out]
        exact (hV1.block b2 (Array.getElem?_eq_some_iff.1 HbV.out).1).trans HbV.out
end Go.Proofs.YteilaajjpjhijaaDoor
