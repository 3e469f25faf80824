/- Walk of few. -/
import Derived.Test.YteilaajjpjhijaaDoorXf
import Derived.Test.YteilaajjpjhijaaDoorMk
namespace Go.Proofs.YteilaajjpjhijaaDoor
open Go.RowKit PSpec

/-- a row of rules of the call's own, whose items lie anywhere -/
theorem rules_read {W : World} {B : Nat} {v : Value} {rs : List RV} (h : W.ownsRow B 55 2 v rs.length (rvCells rs)) (hi : ∀ q, q ∈ rs → Items W q.2 q.1.2) : Rules W v (rs.map (·.1)) := by
  have h' := h
  rcases h.2 with ⟨rfl, h0⟩ | ⟨g, cap, cur, rfl, _, hg, hnc, hcm, _, _⟩
  · obtain rfl : rs = [] := List.length_eq_zero_iff.1 h0
    exact ⟨none, 0, rfl, Nat.le_refl _, by decide, fun h => absurd rfl h⟩
  · refine ⟨some ⟨g, 0, none⟩, cap, by rw [List.length_map], by rw [List.length_map]; exact hnc, hcm, fun _ => ⟨g, 0, rfl, fun i r hr => ?_⟩⟩
    rw [List.getElem?_map] at hr
    cases hq : rs[i]? with
    | none => rw [hq] at hr; simp at hr
    | some q =>
      rw [hq] at hr
      obtain rfl : q.1 = r := by simpa using hr
      obtain ⟨g0, g1⟩ := rvCells_get rs i q hq
      have hcl := h'.cells (g := g) rfl
      have e0 := hcl _ _ g0
      have e1 := hcl _ _ g1
      rw [Addr.add_mid] at e0 e1
      exact ⟨by rw [show 0 + i * 2 = 0 + 2 * i by omega]; exact e0, q.2, by rw [show 0 + i * 2 + 1 = 0 + (2 * i + 1) by omega]; exact e1, hi q (List.mem_of_getElem? hq)⟩
/-- items, cut -/
theorem Items.take {w : World} {a : Option Addr} {n c : Nat} {its : List It} (h : Items w (.slice a n c) its) (k : Nat) (hk : k ≤ its.length) : Items w (.slice a k c) (its.take k) := by
  obtain ⟨a', c', e, h1, h2, h3⟩ := h
  obtain ⟨rfl, rfl, rfl⟩ : a = a' ∧ n = its.length ∧ c = c' := by simpa using e
  refine ⟨a, c, by rw [List.length_take, Nat.min_eq_left hk], by rw [List.length_take]; omega, h2, fun hne => ?_⟩
  obtain ⟨b, o, e, hc⟩ := h3 (by rintro rfl; simp at hne)
  refine ⟨b, o, e, fun i x hx => hc i x ?_⟩
  rw [List.getElem?_take] at hx
  split at hx
  · exact hx
  · simp at hx
def cutV : Value → Value
  | .slice a n c => .slice a (min n 7) c
  | v => v
def cutR (q : RV) : RV := ((q.1.1, q.1.2.take 7), cutV q.2)
theorem cutR_items {w : World} {q : RV} (h : Items w q.2 q.1.2) : Items w (cutR q).2 (cutR q).1.2 := by
  have h' := h
  obtain ⟨a, c, e, _, _, _⟩ := h
  unfold cutR
  rw [e] at h' ⊢
  have := h'.take (min q.1.2.length 7) (by omega)
  simp only [cutV]
  rw [show q.1.2.take 7 = q.1.2.take (min q.1.2.length 7) by
    by_cases h : q.1.2.length ≤ 7
    · rw [Nat.min_eq_left h, List.take_of_length_le h, List.take_of_length_le (Nat.le_refl _)]
    · rw [Nat.min_eq_right (by omega)]]
  exact this
def FewPost (w : World) (e : Ending) (w' : World) : Prop := ∃ pv q, e = .returned (.agg #[pv]) ∧ Rules w' pv q ∧ Below w.heap.size w w'
/-- the state of the loop of few -/
structure FrS (w : World) (rs : List RV) (pv : Value) (k : Nat) (v : Value) (W : World) : Prop where
  out : W.heap[w.heap.size + 1 + 1]? = some (.cells #[v] 24 (0, 0))
  own : W.ownsRow (w.heap.size + 1 + 1 + 1) 55 2 v k (rvCells ((rs.map cutR).take k))
  par : W.cell? ⟨w.heap.size, 0, none⟩ = some pv
  res : W.heap[w.heap.size + 1]? = some (.cells #[.slice none 0 0] 24 (0, 0))
  low : Below w.heap.size w W
  sz : w.heap.size + 1 + 1 + 1 ≤ W.heap.size
theorem FrS.next {w W W1 W2 : World} {rs : List RV} {pv v v' : Value} {k : Nat} {q : RV} (h : FrS w rs pv k v W) (hq : rs[k]? = some q) (hb : Below W.heap.size W W1)
    (hown : W2.ownsRow (w.heap.size + 1 + 1 + 1) 55 2 v' (k + 1) (rvCells ((rs.map cutR).take k) ++ [.int .i64 q.1.1, (cutR q).2])) (hg : W1.grownBy W2 v.ownBlock) :
    FrS w rs pv (k + 1) v' (W2.setCell ⟨w.heap.size + 1 + 1, 0, none⟩ v') := by
  have hg1 : W.grownBy W2 v.ownBlock := grown_trans (grownBel hb _) hg
  have hvb : ∀ j, v.ownBlock = some j → w.heap.size + 1 + 1 + 1 ≤ j := fun j e => (h.own.lt j e).1
  have hsz := h.sz
  have blk : ∀ j, j < w.heap.size + 1 + 1 + 1 → W2.heap[j]? = W.heap[j]? := fun j hj => hg1.block j (by omega) fun e => by have := hvb j e.symm; omega
  have hset : W2.grownBy (W2.setCell ⟨w.heap.size + 1 + 1, 0, none⟩ v') (some (w.heap.size + 1 + 1)) := grown_set (grownBel (Below.refl _ _) _) _ _
  have hs2 : W.heap.size ≤ W2.heap.size := hg1.size
  have e : (rs.map cutR).take (k + 1) = (rs.map cutR).take k ++ [cutR q] := by
    rw [List.take_add_one, List.getElem?_map, hq]; rfl
  refine ⟨one_setCell ((blk _ (by omega)).trans h.out), ?_, ?_, ?_, ?_, ?_⟩
  · rw [e, rvCells_snoc]
    exact grown_kept hown hset fun j hj => by have := (hown.lt j hj).1; simp; omega
  · rw [World.cell?_of_block (w := W) ((hset.block w.heap.size (by omega) (by simp; omega)).trans (blk _ (by omega)))]
    exact h.par
  · exact (hset.block _ (by omega) (by simp)).trans ((blk _ (by omega)).trans h.res)
  · refine h.low.trans ⟨hg1.os, hg1.tape, hg1.output, hg1.size, fun j hj => blk j (by omega)⟩ |>.trans ?_
    exact (Below.refl _ _).setCell (p := ⟨w.heap.size + 1 + 1, 0, none⟩) (by simp; omega) _
  · simp only [World.size_setCell]; omega
theorem FrS.post {w W : World} {rs : List RV} {pv va : Value} {k : Nat} (h : FrS w rs pv k va W) (hrs : ∀ q, q ∈ rs → Items w q.2 q.1.2) (u : Value) (hk : k ≤ rs.length) : FewPost w (.returned (.agg #[va])) (W.setCell ⟨w.heap.size + 1, 0, none⟩ u) := by
  have hsz := h.sz
  have hb1 : Below w.heap.size w (W.setCell ⟨w.heap.size + 1, 0, none⟩ u) := h.low.trans ((Below.refl _ _).setCell (p := ⟨w.heap.size + 1, 0, none⟩) (by simp) _)
  have hset : W.grownBy (W.setCell ⟨w.heap.size + 1, 0, none⟩ u) (some (w.heap.size + 1)) := grown_set (grownBel (Below.refl _ _) _) _ _
  have ho := grown_kept h.own hset fun j hj => by have := (h.own.lt j hj).1; simp; omega
  have hl : ((rs.map cutR).take k).length = k := by rw [List.length_take, List.length_map]; omega
  refine ⟨va, ((rs.map cutR).take k).map (·.1), rfl, rules_read (by rw [hl]; exact ho) fun q hq => ?_, hb1⟩
  obtain ⟨q0, hq0, rfl⟩ := List.mem_map.1 (List.mem_of_mem_take hq)
  exact cutR_items ((hrs q0 hq0).below hb1)
set_option maxRecDepth 100000 in
set_option maxHeartbeats 4000000 in
theorem f12_any (pv : Value) (p : Pr) (w : World) (hp : Rules w pv p) : Calls Tryd.prog 12 #[.agg #[pv]] w (FewPost w) := by
  obtain ⟨pa, pc, rfl, pz1, pz2, pz3⟩ := hp
  unfold maxLen at pz2
  obtain ⟨pb, po, rs, hrs, hrv, hp0⟩ : ∃ (pb po : Nat) (rs : List RV), rs.map (·.1) = p ∧ RVs w pb po rs ∧ (0 < rs.length → pa = some ⟨pb, po, none⟩) := by
    by_cases hne : p = []
    · subst hne
      exact ⟨0, 0, [], rfl, fun i q h => by simp at h, fun h => by simp at h⟩
    · obtain ⟨b, o, e, hc⟩ := pz3 hne
      obtain ⟨rs, h1, h2⟩ := rvs_of p o hc
      exact ⟨b, o, rs, h1, h2, fun _ => e⟩
  subst hrs
  rw [List.length_map] at pz1
  have hit : ∀ q, q ∈ rs → Items w q.2 q.1.2 := fun q hq => by
    obtain ⟨k, hk⟩ := List.getElem?_of_mem hq
    exact (hrv k q hk).2.2
  have HIT := Lib.hid hit
  have HRV := Lib.hid hrv
  have HP0 := Lib.hid hp0
  clear pz3 hrv hp0 hit
  have hlm : (rs.map (·.1)).length = rs.length := List.length_map _
  rw [hlm]
  clear hlm
  have hst : FrS w rs (.slice pa rs.length pc) 0 (.slice none 0 0) (((w.alloc (.cells #[.slice pa rs.length pc] 24)).alloc (.cells #[.slice none 0 0] 24)).alloc (.cells #[.slice none 0 0] 24)) := by
    refine ⟨?_, ⟨rfl, .inl ⟨rfl, rfl⟩⟩, by go_simp, ?_, ((((Below.refl _ _).alloc (Nat.le_refl _) _).alloc (by simp) _).alloc (by simp; omega) _), by simp⟩
    · rw [show w.heap.size + 1 + 1 = ((w.alloc (.cells #[.slice pa rs.length pc] 24)).alloc (.cells #[.slice none 0 0] 24)).heap.size by simp [World.size_alloc]]; exact World.alloc_heap_new _ _
    · refine (((Below.refl _ ((w.alloc (.cells #[.slice pa rs.length pc] 24)).alloc (.cells #[.slice none 0 0] 24))).alloc (Nat.le_refl _) _).block _ (by simp)).trans ?_
      rw [show w.heap.size + 1 = (w.alloc (.cells #[.slice pa rs.length pc] 24)).heap.size by simp [World.size_alloc]]; exact World.alloc_heap_new _ _
  have HST := Lib.hid hst
  clear hst
  go_enter Tryd.func12, Tryd.ntmps12
  go_wp2_with fail
  go_loopw [4] (fun i wr => ∃ (k : Nat) (v : Value), i = .int .i64 k ∧ k ≤ rs.length ∧ k ≤ 26 ∧ FrS w rs (.slice pa rs.length pc) k v wr) (fun i _ => rs.length - (intOf i).toNat)
  case atStart => exact ⟨0, .slice none 0 0, rfl, by omega, by omega, HST.out⟩
  case round =>
    obtain ⟨k, v, rfl, hk, hk26, hfs⟩ := hrel
    have hp1 := hfs.par
    have hsz := hfs.sz
    have hx := hfs.out
    have hr1 := hfs.res
    obtain ⟨va, vc, rfl⟩ := own_slice hfs.own
    have hx0 : wr.cell? ⟨w.heap.size + 1 + 1, 0, none⟩ = some (.slice va k vc) := (cell_of_row wr (w.heap.size + 1 + 1) 0 _ _ _ hx).trans rfl
    have hxf : wr.frozen? ⟨w.heap.size + 1 + 1, 0, none⟩ = false := frozen_of_row wr _ 0 _ _ hx
    have hr0 : wr.cell? ⟨w.heap.size + 1, 0, none⟩ = some (.slice none 0 0) := (cell_of_row wr (w.heap.size + 1) 0 _ _ _ hr1).trans rfl
    have hrf : wr.frozen? ⟨w.heap.size + 1, 0, none⟩ = false := frozen_of_row wr _ 0 _ _ hr1
    have HFS := Lib.hid hfs
    have HO := Lib.hid hfs.own
    have HB := Lib.hid hfs.low
    clear hx hr1 hfs HST
    by_cases hlt : k < rs.length
    · by_cases h26 : k < 26
      · obtain ⟨q, hq⟩ := get_some rs k hlt
        obtain rfl := HP0.out (by omega)
        obtain ⟨c0, c1, ci⟩ := HRV.out k q hq
        have c0 := keeps_of_below HB.out _ _ c0
        have c1 := keeps_of_below HB.out _ _ c1
        have ci := ci.below HB.out
        have HQ := Lib.hid hq
        obtain ⟨⟨qo, qi⟩, qv⟩ := q
        have CI := Lib.hid ci
        obtain ⟨ia, ic, rfl, i1, i2, i3⟩ : Items wr qv qi := ci
        unfold maxLen at i2
        simp only at c0 c1
        have k0 : (0 : Int) ≤ (k : Int) := by omega
        have k1 : (k : Int) < (rs.length : Int) := by omega
        clear i3 hq
        have al : ∀ (o1 : Obj) (ad : Addr) (z : Value), wr.cell? ad = some z → (wr.alloc o1).cell? ad = some z := fun o1 ad z hz => keeps_of_below ((Below.refl _ _).alloc (Nat.le_refl _) _) _ _ hz
        have x2 := fun o1 => al o1 _ _ hx0
        clear al
        by_cases h7 : qi.length ≤ 7
        · have hm : min (qi.length : Int) 7 = qi.length := by omega
          obtain ⟨i0, HI0⟩ := part55
          go_wp2_with (at_builtin; refine wpList_append_own_at _ rfl (.tmp 31) (.tmp 33) 22 rfl (w.heap.size + 1 + 1 + 1) 55 i0 (.agg #[.int .i64 0, .slice none 0 0]) 2 32 Tryd.underlying22 HI0.out.1 HI0.out.2.1 HI0.out.2.2.1 HI0.out.2.2.2 rfl (by decide) (.slice va k vc) k _ rfl ((HO.out.alloc _).alloc _) ⟨wr.heap.size + 1, 0, none⟩ 1 1 [.int .i64 qo, .slice ia qi.length ic] rfl rfl ?_ ?_ ?_ ?_ ?_ ?_)
          · exact ⟨rfl, rfl⟩
          · unfold maxLen; omega
          · omega
          · omega
          · intro v1 w1 hown1 hg1 _ _
            obtain ⟨a1, c1', rfl⟩ := own_slice hown1
            have hcut : (cutR ((qo, qi), .slice ia qi.length ic)).2 = .slice ia qi.length ic := by
              show Value.slice ia (min qi.length 7) ic = _
              congr 1; omega
            have HF1 := Lib.hid (HFS.out.next HQ.out (((Below.refl _ _).alloc (Nat.le_refl _) _).alloc (by simp) _) (by rw [hcut]; exact hown1) hg1)
            have hb2 : w1.heap[w.heap.size + 1 + 1]? = some (.cells #[.slice va k vc] 24 (0, 0)) := by
              refine (hg1.block _ (by simp; omega) fun e => ?_).trans ((((Below.refl _ wr).alloc (Nat.le_refl _) _).alloc (by simp) _).block _ (by omega) |>.trans HFS.out.out)
              have := (HO.out.lt _ e.symm).1
              omega
            have hc2 : w1.cell? ⟨w.heap.size + 1 + 1, 0, none⟩ = some (.slice va k vc) := (cell_of_row w1 (w.heap.size + 1 + 1) 0 _ _ _ hb2).trans rfl
            have hf2 : w1.frozen? ⟨w.heap.size + 1 + 1, 0, none⟩ = false := frozen_of_row w1 _ 0 _ _ hb2
            clear hown1 hg1 hcut hb2
            go_wp2_with fail
            exact ⟨⟨k + 1, _, by go_num, by omega, by omega, HF1.out⟩, by simp only [intOf]; omega⟩
        · have hm : min (qi.length : Int) 7 = 7 := by omega
          obtain ⟨i0, HI0⟩ := part55
          go_wp2_with (at_builtin; refine wpList_append_own_at _ rfl (.tmp 31) (.tmp 33) 22 rfl (w.heap.size + 1 + 1 + 1) 55 i0 (.agg #[.int .i64 0, .slice none 0 0]) 2 32 Tryd.underlying22 HI0.out.1 HI0.out.2.1 HI0.out.2.2.1 HI0.out.2.2.2 rfl (by decide) (.slice va k vc) k _ rfl ((HO.out.alloc _).alloc _) ⟨wr.heap.size + 1, 0, none⟩ 1 1 [.int .i64 qo, .slice ia 7 ic] rfl rfl ?_ ?_ ?_ ?_ ?_ ?_)
          · exact ⟨rfl, rfl⟩
          · unfold maxLen; omega
          · omega
          · omega
          · intro v1 w1 hown1 hg1 _ _
            obtain ⟨a1, c1', rfl⟩ := own_slice hown1
            have hcut : (cutR ((qo, qi), .slice ia qi.length ic)).2 = .slice ia 7 ic := by
              show Value.slice ia (min qi.length 7) ic = _
              congr 1; omega
            have HF1 := Lib.hid (HFS.out.next HQ.out (((Below.refl _ _).alloc (Nat.le_refl _) _).alloc (by simp) _) (by rw [hcut]; exact hown1) hg1)
            have hb2 : w1.heap[w.heap.size + 1 + 1]? = some (.cells #[.slice va k vc] 24 (0, 0)) := by
              refine (hg1.block _ (by simp; omega) fun e => ?_).trans ((((Below.refl _ wr).alloc (Nat.le_refl _) _).alloc (by simp) _).block _ (by omega) |>.trans HFS.out.out)
              have := (HO.out.lt _ e.symm).1
              omega
            have hc2 : w1.cell? ⟨w.heap.size + 1 + 1, 0, none⟩ = some (.slice va k vc) := (cell_of_row w1 (w.heap.size + 1 + 1) 0 _ _ _ hb2).trans rfl
            have hf2 : w1.frozen? ⟨w.heap.size + 1 + 1, 0, none⟩ = false := frozen_of_row w1 _ 0 _ _ hb2
            clear hown1 hg1 hcut hb2
            go_wp2_with fail
            exact ⟨⟨k + 1, _, by go_num, by omega, by omega, HF1.out⟩, by simp only [intOf]; omega⟩
      · obtain rfl : k = 26 := by omega
        go_wp2_with fail
        exact bodyPost_ret (v := .agg #[.slice va 26 vc]) (by simp [results, Tryd.results12, go_sem, hr0]) rfl (HFS.out.post HIT.out _ hk)
    · obtain rfl : k = rs.length := by omega
      go_wp2_with fail
      exact bodyPost_ret (v := .agg #[.slice va rs.length vc]) (by simp [results, Tryd.results12, go_sem, hr0]) rfl (HFS.out.post HIT.out _ hk)
end Go.Proofs.YteilaajjpjhijaaDoor
