/- Walk of Match on good input. -/
import Derived.Test.YteilaajjpjhijaaDoorMn
namespace Go.Proofs.YteilaajjpjhijaaDoor
open Go.RowKit PSpec


theorem rowC_new (w : World) (c : Array Value) (t : TypeId) : rowC (w.alloc (.cells c t)) w.heap.size = c := by
  rw [rowC_alloc, if_pos rfl]; exact ocells_cells c t
theorem own_below {w w' : World} {base e size n : Nat} {v : Value} {xs : List Value} (h : w.ownsRow base e size v n xs) (hb : Below w.heap.size w w') : w'.ownsRow base e size v n xs :=
  h.kept (grown_of_below hb none) (by
    cases hv : v.ownBlock with
    | none => exact .inl rfl
    | some g => exact .inr (by simp))
theorem own_below2 {w w' : World} {base e size n : Nat} {v : Value} {xs : List Value} (h : w.ownsRow base e size v n xs) (hb : Below w.heap.size w w') (o1 o2 : Obj) : ((w'.alloc o1).alloc o2).ownsRow base e size v n xs :=
  own_below h ((hb.alloc hb.size _).alloc (by have := hb.size; rw [World.size_alloc]; omega) _)
theorem cell_arrC (w : World) (c : Nat → Int) (t : TypeId) (A : Array Value) (hA : A = arrC c) (g : Nat) (hg : g = w.heap.size) (i : Nat) (u : Value) (h : (arrL c)[i]? = some u) : (w.alloc (.cells A t)).cell? ⟨g, 0 + i, none⟩ = some u := by
  subst hA hg
  rw [Nat.zero_add]
  refine rowC_cell i u ?_
  rw [rowC_new]
  simpa [arrC] using h
theorem mkPost {p : Pr} {op n : Int} {ch l : List Int} {w w' : World} {e : Ending} (hm : matchF p op ch = (l, n)) (v : Value) (he : e = .returned (.tuple #[v, .int .i64 n])) (hi : Ints w' v l) (hb : Below w.heap.size w w') : MatchPost p op ch w e w' :=
  ⟨v, by rw [hm]; exact he, by rw [hm]; exact hi, hb⟩

set_option maxRecDepth 100000 in
set_option maxHeartbeats 4000000 in
theorem f15_good (pv cv : Value) (p : Pr) (op : Int) (ch : List Int) (w : World) (hp : Rules w pv p) (hcv : Ints w cv ch) (hv : validB p = true) (ho : opB op = true) (hc : childrenB ch = true) :
    Calls Tryd.prog 15 #[.agg #[pv], .int .i64 op, cv] w (MatchPost p op ch w) := by
  have hcv' := hcv
  have hp' := hp
  obtain ⟨c0, cac, rfl, g1, g2, g3, g4⟩ := hcv
  obtain ⟨p0, pc, rfl, p1, p2, p3⟩ := hp
  obtain ⟨pb, po, rs, hrs, hrv, hp0⟩ : ∃ (pb po : Nat) (rs : List RV), rs.map (·.1) = p ∧ RVs w pb po rs ∧ (0 < rs.length → p0 = some ⟨pb, po, none⟩) := by
    by_cases hne : p = []
    · exact ⟨0, 0, [], by rw [hne]; rfl, fun i q h => (by simp at h), fun h => (by simp at h)⟩
    · obtain ⟨pb, po, hpe, hcell⟩ := p3 hne
      obtain ⟨rs, h1, h2⟩ := rvs_of p po hcell
      exact ⟨pb, po, rs, h1, h2, fun _ => hpe⟩
  have hlen : rs.length = p.length := by rw [← hrs]; simp
  rw [← hlen] at p1 hp' ⊢
  have hlen0 := hlen
  have HLEN := Lib.hid hlen
  have HP' := Lib.hid hp'
  have HCV := Lib.hid hcv'
  clear hlen hp' hcv'
  unfold maxLen at g2 p2
  clear g3 g4 p3
  have b0 : Below w.heap.size w (w.alloc (.cells #[.slice p0 rs.length pc] 24)) := (Below.refl _ _).alloc (Nat.le_refl _) _
  have hcs := hc
  rw [childrenB_eq] at hcs
  simp only [Bool.and_eq_true, Bool.not_eq_true', decide_eq_true_eq] at hcs
  obtain ⟨ha, hl⟩ := hcs
  have hd : decide (30 < (ch.length : Int)) = false := by simp; omega
  have hd' : decide (30 < ch.length) = false := by simp; omega
  have hmm := @run_makeMap Tryd.prog
  have B0 := Lib.hid b0
  clear b0
  have HRL := Lib.hid (show rs.length ≤ 24 by rw [hlen0]; simp only [validB, Bool.and_eq_true, decide_eq_true_eq] at hv; exact hv.1)
  have HRS := Lib.hid hrs
  have HRV := Lib.hid hrv
  have HP0 := Lib.hid hp0
  clear hrs hrv hp0 hlen0
  go_enter Tryd.func15, Tryd.ntmps15
  go_wp2_with (first | (go_at_call 20; refine (f20_any _ p _ (HP'.out.below (by first | exact Below.refl _ _ | exact (Below.refl _ _).alloc (Nat.le_refl _) _))).mono ?_; rintro e w1 ⟨rfl, hb1⟩; rw [hv]; have B1 := Lib.hid hb1; clear hb1) | (go_at_call 30; refine (f30_any _ _).mono ?_; rintro e w2 ⟨rfl, rfl⟩; rw [ho]) | (go_at_call 31; refine (f31_any _ ch _ (HCV.out.below (B0.out.trans (B1.out.mono (by simp))))).mono ?_; rintro e w2 ⟨rfl, hb2⟩; rw [ha]; have hk : ∀ o1 : Obj, (w2.alloc o1).cell? ⟨w.heap.size, 0, none⟩ = some (.slice p0 rs.length pc) := (fun o1 => keeps_of_below (B1.out.trans ((hb2.mono B1.out.size).trans ((Below.refl _ _).alloc (Nat.le_trans B1.out.size hb2.size) _))) _ _ (by go_simp)); have B2 := Lib.hid (B0.out.trans ((B1.out.mono (by simp)).trans (hb2.mono (Nat.le_trans B0.out.size B1.out.size)))); clear hb2))
  have hg0 : Grp (w2.heap.size + 1) w2.heap.size [] [] (w2.alloc (.map #[] 0)) := Grp.start (World.alloc_heap_new _ _) (by omega)
  have hbb : Below w.heap.size w (w2.alloc (.map #[] 0)) := B2.out.alloc B2.out.size _
  clear hk hmm
  go_loopw [37] (fun i wr => ∃ (j : Nat) (L : MV), j ≤ rs.length ∧ i = .int .i64 j ∧ Grp (w2.heap.size + 1) w2.heap.size L (rs.take j) wr ∧ w2.heap.size + 1 ≤ wr.heap.size ∧ Below w.heap.size w wr) (fun i _ => rs.length - (intOf i).toNat)
  case atStart => exact ⟨0, [], by omega, rfl, hg0, by simp, hbb⟩
  case round =>
    obtain ⟨j, L, hj, rfl, hG, hsz, hb⟩ := hrel
    clear hg0 hbb
    have HG := Lib.hid hG
    have HB := Lib.hid hb
    clear hG hb
    by_cases hlt : j < rs.length
    · have hd2 : decide (j < rs.length) = true := by simpa using hlt
      obtain ⟨q, hq⟩ := get_some rs j hlt
      obtain ⟨e0, e1, e2⟩ := HRV.out j q hq
      have k0 := keeps_of_below HB.out _ _ e0
      have k1 := keeps_of_below HB.out _ _ e1
      obtain rfl := HP0.out (by omega)
      obtain ⟨⟨qo, qi⟩, qv⟩ := q
      obtain ⟨ia, ic, rfl, i1, i2, i3⟩ : Items w qv qi := e2
      clear i1 i2 i3
      dsimp only at k0 k1
      have HQ := Lib.hid hq
      clear hq e0 e1
      go_wp2_with fail
      have bA : Below wr.heap.size wr (wr.alloc (.cells #[.int .i64 qo, .slice ia qi.length ic] 55)) := (Below.refl _ _).alloc (Nat.le_refl _) _
      have hG1 : Grp (w2.heap.size + 1) w2.heap.size L (rs.take j) ((wr.alloc (.cells #[.int .i64 qo, .slice ia qi.length ic] 55)).drew) := HG.out.below bA.drew
      have hB1 : Below w.heap.size w ((wr.alloc (.cells #[.int .i64 qo, .slice ia qi.length ic] 55)).drew) := HB.out.trans (bA.drew.mono HB.out.size)
      have hS1 : ((wr.alloc (.cells #[.int .i64 qo, .slice ia qi.length ic] 55)).drew).cell? ⟨wr.heap.size, 0, none⟩ = some (.int .i64 qo) ∧ ((wr.alloc (.cells #[.int .i64 qo, .slice ia qi.length ic] 55)).drew).cell? ⟨wr.heap.size, 1, none⟩ = some (.slice ia qi.length ic) := ⟨by go_simp, by go_simp⟩
      have HG1 := Lib.hid hG1
      have HB1 := Lib.hid hB1
      clear bA hG1 hB1
      refine wp_region_pair [0, 1, 2, 3, 4, 5, 7] 6 8 [(9, false), (10, false)] (fun w' => w'.cell? ⟨wr.heap.size, 0, none⟩ = some (.int .i64 qo) ∧ w'.cell? ⟨wr.heap.size, 1, none⟩ = some (.slice ia qi.length ic))
        (by kernel_rfl) (by kernel_rfl) rfl (by kernel_rfl) (fun _ _ d _ _ h => by cases d <;> exact h) hS1 ?_
      clear k0 k1 hS1
      refine wpLts_light _ rfl rfl _ (fun w' hS => by go_simp; rfl) ?_
      refine wpLts_light _ rfl rfl _ (fun w' hS => by go_simp; rfl) ?_
      refine wpLts_light _ rfl rfl _ (fun w' hS => by obtain ⟨s1, s2⟩ := hS; go_simp; rfl) ?_
      refine wpLts_light _ rfl rfl _ (fun w' hS => by go_simp; rfl) ?_
      refine wpLts_light _ rfl rfl _ (fun w' hS => by go_simp; rfl) ?_
      refine wpLts_light _ rfl rfl _ (fun w' hS => by obtain ⟨s1, s2⟩ := hS; go_simp; rfl) ?_
      refine wpLts_light _ rfl rfl _ (fun w' hS => by obtain ⟨s1, s2⟩ := hS; go_simp; rfl) ?_
      have hlk := run_lookupV qo HG1.out.map
      have hown := HG1.out.own qo
      have hXn : ∀ g, (valV L qo).ownBlock = some g → g < wr.heap.size := fun g hg => ((HG.out.own qo).lt g hg).2
      obtain ⟨V, hV⟩ : ∃ V, V = (wr.alloc (.cells #[.int .i64 qo, .slice ia qi.length ic] 55)).drew := ⟨_, rfl⟩
      rw [← hV] at HG1 HB1 hlk hown ⊢
      have hVs : V.heap.size = wr.heap.size + 1 := by rw [hV]; simp
      have hVk : V.cell? ⟨wr.heap.size, 0, none⟩ = some (.int .i64 qo) ∧ V.cell? ⟨wr.heap.size, 1, none⟩ = some (.slice ia qi.length ic) := by rw [hV]; exact ⟨by go_simp, by go_simp⟩
      have bV : Below V.heap.size V (V.alloc (.cells #[.int .i64 qo, .slice ia qi.length ic] 55)) := (Below.refl _ _).alloc (Nat.le_refl _) _
      have hlk2 := run_lookupV qo (HG1.out.below bV).map
      have hown2 := (HG1.out.below bV).own qo
      have HV := Lib.hid hV
      have HOWN := Lib.hid hown2
      have HXN := Lib.hid hXn
      have HVS := Lib.hid hVs
      have HVK := Lib.hid hVk
      have BV := Lib.hid bV
      clear hV hown hown2 hXn bV hVs hVk
      refine wpPair_of _ _ rfl rfl (valV L qo) (.slice (some ⟨V.heap.size, 0, none⟩) 1 1) 47 49 rfl rfl (by decide) rfl rfl (by kernel_rfl) (by kernel_rfl) (by kernel_rfl) (V.alloc (.cells #[.int .i64 qo, .slice ia qi.length ic] 55)) ?_ ?_ ?_ HVK.out ⟨keeps_of_below BV.out _ _ HVK.out.1, keeps_of_below BV.out _ _ HVK.out.2⟩ ?_
      · go_simp; rfl
      · go_simp; rfl
      · go_simp
      go_simp
      obtain ⟨i0, HI⟩ := part55
      refine wpO_append _ rfl rfl (.tmp 47) (.tmp 49) 22 rfl (w2.heap.size + 1) 55 i0 (.agg #[.int .i64 0, .slice none 0 0]) 2 32 Tryd.underlying22 HI.out.1 HI.out.2.1 HI.out.2.2.1 HI.out.2.2.2 rfl (by decide) (valV L qo) _ _ rfl HOWN.out ⟨V.heap.size, 0, none⟩ 1 1 [.int .i64 qo, .slice ia qi.length ic] rfl rfl ?_ ?_ ?_ ?_ ?_ ?_
      · intro i u hu
        match i, hu with
        | 0, hu => obtain rfl : Value.int .i64 qo = u := by simpa using hu
                   go_simp
        | 1, hu => obtain rfl : Value.slice ia qi.length ic = u := by simpa using hu
                   go_simp
        | i + 2, hu => simp at hu
      · intro u hu
        rcases List.mem_cons.1 hu with rfl | hu
        · rfl
        · obtain rfl : u = Value.slice ia qi.length ic := by simpa using hu
          rfl
      · have h1 := ofOp_len qo (rs.take j); have h2 := HRL.out; rw [List.length_take] at h1; unfold maxLen; omega
      · have h1 := ofOp_len qo (rs.take j); have h2 := HRL.out; rw [List.length_take] at h1; omega
      · rw [World.size_alloc]; have := HVS.out; omega
      · intro v' w' ho' hg' hat
        have kx : ∀ i v, V.cell? ⟨wr.heap.size, i, none⟩ = some v → w'.cell? ⟨wr.heap.size, i, none⟩ = some v := fun i v hc =>
          hg'.cell (keeps_of_below BV.out _ _ hc) (by
            intro e
            exact Nat.lt_irrefl _ (HXN.out _ e.symm))
        have hbw : w2.heap.size ≠ wr.heap.size := by omega
        have hput := (HG1.out.below BV.out).put (q := ((qo, qi), .slice ia qi.length ic)) v' ho' hg' hat
        have hmu := run_mapUpdateV qo v' (hg'.block _ (lt_of_heap (HG1.out.below BV.out).map) (by
          intro e
          have := ((HG1.out.below BV.out).own qo).lt _ e.symm
          omega) |>.trans (HG1.out.below BV.out).map)
        refine ⟨⟨kx 0 _ HVK.out.1, kx 1 _ HVK.out.2⟩, ?_⟩
        have HPUT := Lib.hid hput
        have hc1 := kx 0 _ HVK.out.1
        have hc2 := kx 1 _ HVK.out.2
        refine wpO_skipH _ rfl rfl (w'.putObj w2.heap.size (mapV (upV L qo v'))) ?_ ⟨⟨?_, ?_⟩, ?_⟩
        · go_simp
        · exact (cell_putObj _ (Ne.symm hbw)).trans hc1
        · exact (cell_putObj _ (Ne.symm hbw)).trans hc2
        · refine wpO_nil ?_
          have hle := hg'.size
          have hsv := HVS.out
          have hbel : Below w.heap.size w (w'.putObj w2.heap.size (mapV (upV L qo v'))) := by
            have hw2 := B2.out.size
            have hVA := HB1.out.trans (BV.out.mono HB1.out.size)
            refine (hVA.grown hg' hVA.size fun k e => ?_).trans (below_putObj _ _ hw2)
            have := (((HG1.out.below BV.out).own qo).lt k e).1
            omega
          have HBEL := Lib.hid hbel
          have etk : rs.take (j + 1) = rs.take j ++ [((qo, qi), .slice ia qi.length ic)] := by rw [List.take_add_one, HQ.out]; rfl
          have ETK := Lib.hid etk
          clear hbel etk hc1 hc2 kx hmu
          go_wp2_with fail
          go_roundw
          case rel => exact ⟨j + 1, _, hlt, by go_num, by rw [ETK.out]; exact HPUT.out, by simp [World.putObj]; simp at hle; omega, HBEL.out⟩
          case measure => simp [intOf]; omega
    · have hd2 : decide (j < rs.length) = false := by simp; omega
      obtain rfl : j = rs.length := by omega
      rw [List.take_length] at HG
      have hlk := run_lookupV op HG.out.map
      have hvv : (lkV L op).getD (.slice none 0 0) = valV L op := rfl
      rw [hvv] at hlk
      have hown := HG.out.own op
      obtain ⟨fl, hfl⟩ : ∃ fl, fl = ofOp op rs := ⟨_, rfl⟩
      rw [← hfl] at hown
      have HFL := Lib.hid hfl
      clear hfl hvv
      obtain ⟨fa, fc, hval, hf1, hf2, hf3⟩ : ∃ fa fc, valV L op = .slice fa fl.length fc ∧ fl.length ≤ fc ∧ fc ≤ maxLen ∧ (0 < fl.length → ∃ g, fa = some ⟨g, 0, none⟩ ∧ w2.heap.size < g ∧ g < wr.heap.size ∧ ∀ i q, fl[i]? = some q → wr.cell? ⟨g, i * 2, none⟩ = some (.int .i64 q.1.1) ∧ wr.cell? ⟨g, i * 2 + 1, none⟩ = some q.2) := by
        rcases hown.2 with ⟨hv0, hn0⟩ | ⟨g, cap, cur, hv1, hbg, hg, hnc, hcm, hcs, ht⟩
        · exact ⟨none, 0, by rw [hv0, hn0], by omega, by decide, fun h => by omega⟩
        · refine ⟨_, cap, hv1, hnc, hcm, fun _ => ⟨g, rfl, by omega, lt_of_heap hg, fun i q hq => ?_⟩⟩
          have hcl := hown.cells (g := g) (by rw [hv1]; rfl)
          have hr := rvCells_get fl i q hq
          have h1 := hcl _ _ hr.1
          have h2 := hcl _ _ hr.2
          rw [Addr.add_mid] at h1 h2
          rw [show i * 2 = 0 + 2 * i by omega, show 0 + 2 * i + 1 = 0 + (2 * i + 1) by omega]
          exact ⟨h1, h2⟩
      rw [hval] at hlk
      have HF3 := Lib.hid hf3
      have HVAL := Lib.hid hval
      clear hown hval hf3
      unfold maxLen at hf2
      go_wp2_with fail
      clear hlk
      obtain ⟨wo, rfl⟩ : ∃ x, x = wr := ⟨_, rfl⟩
      go_loopw [11, 56] (fun v i w' => ∃ j : Nat, j ≤ fl.length ∧ i = .int .i64 j ∧ w'.ownsRow wo.heap.size 66 12 v (foundOf (fl.take j) ch).length (cntCells (foundOf (fl.take j) ch)) ∧ Below wo.heap.size wo w') (fun _ i _ => fl.length - (intOf i).toNat)
      case atStart => exact ⟨0, by omega, rfl, World.ownsRow_nil _ _ _ _, Below.refl _ _⟩
      case round =>
        obtain ⟨j, hj, rfl, hown, hb⟩ := hrel
        have HOWN := Lib.hid hown
        have HB2 := Lib.hid hb
        have hbs := hb.size
        clear hown hb
        by_cases hlt : j < fl.length
        · have hd2 : decide (j < fl.length) = true := by simpa using hlt
          obtain ⟨q, hq⟩ := get_some fl j hlt
          obtain ⟨g, rfl, hg1, hg2, hcell⟩ := HF3.out (by omega)
          obtain ⟨k0, k1⟩ := hcell j q hq
          have k0 := keeps_of_below HB2.out _ _ k0
          have k1 := keeps_of_below HB2.out _ _ k1
          have hqm : q ∈ rs := by
            have := List.mem_of_getElem? hq
            rw [HFL.out] at this
            exact (List.mem_filter.1 this).1
          obtain ⟨i, hi⟩ := List.mem_iff_getElem?.1 hqm
          have hit := (HRV.out i q hi).2.2
          have hru : ruleB q.1 = true := by
            have h1 : q.1 ∈ p := by rw [← HRS.out]; exact List.mem_map.2 ⟨q, hqm, rfl⟩
            simp only [validB, Bool.and_eq_true, List.all_eq_true] at hv
            exact hv.2 _ h1
          obtain ⟨⟨qo, qi⟩, qv⟩ := q
          have HIT := Lib.hid hit
          obtain ⟨ia, ic, rfl, i1, i2, i3⟩ : Items w qv qi := hit
          clear i1 i2 i3
          dsimp only at k0 k1 HIT hru
          have HQ := Lib.hid hq
          simp only [ruleB, Bool.and_eq_true, decide_eq_true_eq] at hru
          have HRU := Lib.hid hru
          have hBw : Below w.heap.size w wr := HB.out.trans (HB2.out.mono HB.out.size)
          have HBW := Lib.hid hBw
          clear hq hi hqm hcell hru hBw
          have B3 := Lib.hid (show Below w.heap.size w (wr.alloc (.cells #[.int .i64 qo, .slice ia qi.length ic] 55)) from HBW.out.alloc HBW.out.size _)
          obtain ⟨bo, hbo⟩ : ∃ bo, bo = best (divs qi ch) := ⟨_, rfl⟩
          have HBO := Lib.hid hbo
          clear hbo
          have hown3 := own_below HOWN.out ((Below.refl wr.heap.size wr).alloc (Nat.le_refl _) (.cells #[.int .i64 qo, .slice ia qi.length ic] 55))
          have hfs := found_snoc fl ch j _ HQ.out
          simp only at hfs
          rw [← HBO.out] at hfs
          have HFS := Lib.hid hfs
          have HO3 := Lib.hid hown3
          clear hown3 hfs
          cases bo with
          | none =>
            go_wp2_with (first | (go_at_call 33; refine (f33_any _ qi ch _ _ (HIT.out.keep (keeps_of_below B3.out)) HRU.out.2 HRU.out.1.2 (HCV.out.keep (keeps_of_below B3.out)) hc).mono ?_; rintro e w4 ⟨rfl, hb4⟩; rw [← HBO.out]; have B4 := Lib.hid hb4; clear hb4) | (refine wpList_store66 rfl (.tmp 14) (.tmp 65) rfl w4.heap.size (arrC fun _ => 0) _ rfl rfl (rowC_new _ _ _) rfl (arrC_size _) (arrC_cells1 _) ?_))
            go_roundw
            case rel =>
              have hb5 : Below wr.heap.size wr (w4.alloc (.cells (arrC fun _ => 0) 66)) := ((((Below.refl _ _).alloc (Nat.le_refl _) (.cells #[.int .i64 qo, .slice ia qi.length ic] 55)).trans (B4.out.mono (by simp))).alloc (by have := B4.out.size; simp at this; omega) _)
              exact ⟨j + 1, hlt, by go_num, by rw [HFS.out]; simpa using own_below HOWN.out hb5, HB2.out.trans (hb5.mono hbs)⟩
            case measure => simp [intOf]; omega
          | some m =>
            have HCM : Hid (Below wr.heap.size wr (wr.alloc (.cells #[.int .i64 qo, .slice ia qi.length ic] 55))) := (Below.refl _ _).alloc (Nat.le_refl _) _
            have hfl := found_len (fl.take j) ch
            have HFLL := Lib.hid hfl
            have HFL24 : Hid (fl.length ≤ 24) := by
              have h1 := ofOp_len op rs
              rw [← HFL.out] at h1
              have := HRL.out
              exact Nat.le_trans h1 this
            clear hfl
            obtain ⟨i0, HI⟩ := part66
            go_wp2_with (first | (go_at_call 33; refine (f33_any _ qi ch _ _ (HIT.out.keep (keeps_of_below B3.out)) HRU.out.2 HRU.out.1.2 (HCV.out.keep (keeps_of_below B3.out)) hc).mono ?_; rintro e w4 ⟨rfl, hb4⟩; rw [← HBO.out]; have B4 := Lib.hid hb4; have B5 : Hid (Below wr.heap.size wr w4) := (HCM.out.trans (hb4.mono HCM.out.size)); clear hb4) | (refine wpList_store66 rfl (.tmp 14) (.tmp 65) rfl w4.heap.size (arrC (cntOf m)) _ rfl rfl (rowC_new _ _ _) rfl (arrC_size _) (arrC_cells1 _) ?_) | (at_builtin; refine wpList_append_own _ rfl (.tmp 68) (.tmp 70) 64 rfl wo.heap.size 66 i0 (.agg (arrC fun _ => 0)) 12 96 Tryd.underlying64 HI.out.1 HI.out.2.1 HI.out.2.2.1 HI.out.2.2.2 rfl (by decide) _ _ _ rfl (own_below2 HOWN.out B5.out _ _) ⟨w4.heap.size + 1, 0, none⟩ 1 1 (arrL (cntOf m)) rfl rfl ?_ ?_ ?_ ?_ ?_ ?_))
            · intro i u hu
              rw [Addr.add_mid]
              exact cell_arrC _ (cntOf m) _ _ rfl _ (by rw [World.size_alloc]) i u hu
            · intro u hu
              have h1 := arrC_cells1 (cntOf m)
              unfold cells1 at h1
              rw [Array.all_eq_true_iff_forall_mem] at h1
              exact h1 u (by unfold arrC; simpa using hu)
            · have h1 := HFLL.out; rw [List.length_take] at h1; have := HFL24.out; unfold maxLen; omega
            · have h1 := HFLL.out; rw [List.length_take] at h1; have := HFL24.out; omega
            · have h1 := B5.out.size; rw [World.size_alloc, World.size_alloc]; omega
            · intro v' w5 hown' hgrow _
              have hb5 := ((B5.out.alloc B5.out.size (.cells (arrC (cntOf m)) 66)).alloc (by have := B5.out.size; rw [World.size_alloc]; omega) (.cells (arrC (cntOf m)) 66))
              have hown4 := HOWN.out
              have hb6 : Below wo.heap.size wo w5 := (HB2.out.trans (hb5.mono hbs)).grown hgrow (Nat.le_trans hbs hb5.size) (fun k e => (hown4.lt k e).1)
              have HB6 := Lib.hid hb6
              have HW5 := Lib.hid hown'
              clear hb5 hown4 hb6 hown' hgrow
              go_wp2_with fail
              go_roundw
              case rel => exact ⟨j + 1, hlt, by go_num, by rw [HFS.out, Option.toList_some, List.length_append, cntCells_snoc]; exact HW5.out, HB6.out⟩
              case measure => simp [intOf]; omega
        · have hd2 : decide (j < fl.length) = false := by simp; omega
          obtain rfl : j = fl.length := by omega
          rw [List.take_length] at HOWN
          have hG2 := HG.out.below HB2.out
          have hlk := run_lookupV op hG2.map
          rw [show (lkV L op).getD (.slice none 0 0) = valV L op from rfl, HVAL.out] at hlk
          have hru : rulesOf p op = fl.map (·.1) := by rw [HFL.out, ofOp_rules, HRS.out]
          have hB : ∀ q, q ∈ fl → q.1.2.all itB = true ∧ q.1.2.length ≤ 6 := fun q hq => by
            rw [HFL.out] at hq
            have h1 : q.1 ∈ p := by rw [← HRS.out]; exact List.mem_map.2 ⟨q, (List.mem_filter.1 hq).1, rfl⟩
            simp only [validB, Bool.and_eq_true, List.all_eq_true] at hv
            have h2 := hv.2 _ h1
            simp only [ruleB, Bool.and_eq_true, decide_eq_true_eq] at h2
            exact ⟨h2.2, h2.1.2⟩
          have good : Good p op ch := ⟨hv, ho, hc⟩
          have HGOOD := Lib.hid good
          have HBB := Lib.hid hB
          have HRU := Lib.hid hru
          have HBW : Hid (Below w.heap.size w wr) := HB.out.trans (HB2.out.mono HB.out.size)
          have hfl24 : fl.length ≤ 24 := by
            have h1 := ofOp_len op rs
            rw [← HFL.out] at h1
            exact Nat.le_trans h1 HRL.out
          have HFL24 := Lib.hid hfl24
          clear hG2 hru hB good hfl24
          obtain ⟨ms, hms⟩ : ∃ ms, ms = foundOf fl ch := ⟨_, rfl⟩
          rw [← hms] at HOWN
          have HMS := Lib.hid hms
          clear hms
          by_cases hf0 : fl = []
          · have e1 : ((fl.length : Int) == 0) = true := by rw [hf0]; rfl
            have HF0 := Lib.hid hf0
            clear hf0
            have hmt := match_none HGOOD.out (by rw [HRU.out, HF0.out]; rfl)
            have HMT := Lib.hid hmt
            clear hmt
            go_wp2_with fail
            go_ret2
            exact mkPost HMT.out (.slice none 0 0) rfl (ints_nil _) HBW.out
          · have e1 : ((fl.length : Int) == 0) = false := by
              have : fl.length ≠ 0 := fun h => hf0 (List.length_eq_zero_iff.1 h)
              simp; omega
            have HF0 := Lib.hid hf0
            clear hf0
            obtain ⟨va, vc, rfl⟩ : ∃ va vc, u11 = .slice va ms.length vc := by
              rcases HOWN.out.2 with ⟨h1, h2⟩ | ⟨g, cap, cur, h1, _⟩
              · exact ⟨none, 0, by rw [h1, h2]⟩
              · exact ⟨_, cap, h1⟩
            have hne : rulesOf p op ≠ [] := by
              rw [HRU.out]
              intro h
              exact HF0.out (List.map_eq_nil_iff.1 h)
            have hbf : best (divsAll (rulesOf p op) ch) = best ms := by rw [HRU.out, HMS.out, best_found]
            have hwf : ∀ m, m ∈ ms → Wf 54 m := fun m hm => found_wf (fl := fl) (ch := ch) HBB.out (by rw [← HMS.out]; exact hm)
            have hml : ms.length ≤ 24 := by
              have := found_len fl ch
              rw [← HMS.out] at this
              exact Nat.le_trans this HFL24.out
            have HNE := Lib.hid hne
            have HBF := Lib.hid hbf
            have HWF := Lib.hid hwf
            have HML := Lib.hid hml
            have HFA := Lib.hid e1
            clear hne hbf hwf hml
            cases ms with
            | nil =>
              have hmt := match_bad HGOOD.out HNE.out (by rw [HBF.out]; rfl)
              have HMT := Lib.hid hmt
              clear hmt
              go_wp2_with fail
              go_ret2
              exact mkPost HMT.out (.slice none 0 0) rfl (ints_nil _) HBW.out
            | cons m0 ms =>
              obtain ⟨m, hm1, hm2, hm3⟩ := min_best ms m0 HWF.out
              have hmt := match_ok HGOOD.out HNE.out (by rw [HBF.out]; exact hm1)
              have hlt := listTo_cnt hm2
              have hsm : ∀ c, c ∈ cntOf m0 :: ms.map cntOf → Small c := fun c hc => by
                obtain ⟨y, hy, rfl⟩ := List.mem_map.1 (show c ∈ (m0 :: ms).map cntOf from hc)
                exact cnt_small (HWF.out y hy) (by omega)
              have hcn : Cnts wr (.slice va (m0 :: ms).length vc) (cntOf m0 :: ms.map cntOf) := cnts_own HOWN.out rfl
              have hcl : (ms.map cntOf).length ≤ 1000 := by have := HML.out; simp only [List.length_cons] at this; rw [List.length_map]; omega
              have HMT := Lib.hid hmt
              have HLT := Lib.hid hlt
              have HSM := Lib.hid hsm
              have HCN := Lib.hid hcn
              have HCL := Lib.hid hcl
              have HM3 := Lib.hid hm3
              have HSM2 : Hid (Small (cntOf m)) := cnt_small hm2 (by omega)
              clear hmt hlt hsm hcn hcl hm1 hm2 hm3
              have e2 : (((m0 :: ms).length : Int) == 0) = false := by simp; omega
              go_wp2_with (first | (go_at_call 34; refine (f34_any _ _ _ HSM.out _ HCN.out HCL.out).mono ?_; rintro e w6 ⟨rfl, hb6⟩; rw [HM3.out]; have B6 := Lib.hid hb6; clear hb6) | (go_at_call 36; refine (f36_any _ HSM2.out _).mono ?_; rintro e w7 ⟨rv, rfl, hrv, hb7⟩; rw [HLT.out] at hrv; have B7 := Lib.hid hb7; have HRV7 := Lib.hid hrv; clear hb7 hrv))
              go_ret2
              exact mkPost HMT.out rv rfl HRV7.out ((HBW.out.trans (B6.out.mono HBW.out.size)).trans (B7.out.mono (Nat.le_trans HBW.out.size B6.out.size)))

theorem f15_any (pv cv : Value) (p : Pr) (op : Int) (ch : List Int) (w : World) (hp : Rules w pv p) (hcv : Ints w cv ch) :
    Calls Tryd.prog 15 #[.agg #[pv], .int .i64 op, cv] w (MatchPost p op ch w) := by
  cases h : (validB p && opB op && childrenB ch) with
  | false => exact f15_bad pv cv p op ch w hp hcv h
  | true =>
    simp only [Bool.and_eq_true] at h
    exact f15_good pv cv p op ch w hp hcv h.1.1 h.1.2 h.2
end Go.Proofs.YteilaajjpjhijaaDoor
