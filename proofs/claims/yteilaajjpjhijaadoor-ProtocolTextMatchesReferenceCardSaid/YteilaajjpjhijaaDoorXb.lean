/- Walk of Parse. -/
import Derived.Test.YteilaajjpjhijaaDoorXa
namespace Go.Proofs.YteilaajjpjhijaaDoor
open Go.RowKit PSpec

def ItsOwn (B : Nat) (rs : List RV) (W : World) : Prop := ∀ q, q ∈ rs → W.ownsRow B 59 3 q.2 q.1.2.length (itCells q.1.2)
theorem rules_own {W : World} {B : Nat} {v : Value} {rs : List RV} (h : W.ownsRow B 55 2 v rs.length (rvCells rs)) (hi : ItsOwn B rs W) : Rules W v (rs.map (·.1)) := by
  have h' := h
  rcases h.2 with ⟨rfl, h0⟩ | ⟨g, cap, cur, rfl, _, hg, hnc, hcm, _, _⟩
  · obtain rfl : rs = [] := List.length_eq_zero_iff.1 h0
    exact ⟨none, 0, rfl, Nat.le_refl _, by decide, fun h => absurd rfl h⟩
  · refine ⟨some ⟨g, 0, none⟩, cap, by rw [List.length_map], by rw [List.length_map]; exact hnc, hcm, fun _ => ⟨g, 0, rfl, fun i r hr => ?_⟩⟩
    rw [List.getElem?_map] at hr
    cases hq : rs[i]? with
    | none => rw [hq] at hr; simp at hr
    | some q =>
      rw [hq] at hr
      obtain rfl : q.1 = r := by simpa using hr
      obtain ⟨g0, g1⟩ := rvCells_get rs i q hq
      have hcl := h'.cells (g := g) rfl
      have e0 := hcl _ _ g0
      have e1 := hcl _ _ g1
      rw [Addr.add_mid] at e0 e1
      refine ⟨by rw [show 0 + i * 2 = 0 + 2 * i by omega]; exact e0, q.2, by rw [show 0 + i * 2 + 1 = 0 + (2 * i + 1) by omega]; exact e1, items_own (hi q (List.mem_of_getElem? hq))⟩

def ParsePost (s : Bs) (w : World) (e : Ending) (w' : World) : Prop :=
  ∃ pv, e = .returned (.tuple #[.agg #[pv], .int .i64 (parseF s).2.1, .int .i64 (parseF s).2.2]) ∧ Rules w' pv (parseF s).1 ∧ Below w.heap.size w w'
theorem mkParse {s : Bs} {w w' : World} {e : Ending} {p : Pr} {n er : Int} (h : parseF s = (p, n, er)) (pv : Value) (he : e = .returned (.tuple #[.agg #[pv], .int .i64 n, .int .i64 er])) (hr : Rules w' pv p) (hb : Below w.heap.size w w') : ParsePost s w e w' := by
  refine ⟨pv, ?_, ?_, hb⟩ <;> rw [h]
  · exact he
  · exact hr

theorem own_same {W W' : World} {base e size n : Nat} {v : Value} {xs : List Value} (h : W.ownsRow base e size v n xs) (hs : ∀ g, v.ownBlock = some g → W'.heap[g]? = W.heap[g]?) : W'.ownsRow base e size v n xs := by
  refine ⟨h.1, ?_⟩
  rcases h.2 with h | ⟨g, cap, cur, rfl, h2, hg, h3⟩
  · exact .inl h
  · exact .inr ⟨g, cap, cur, rfl, h2, (hs g rfl).trans hg, h3⟩
theorem own_types {W : World} {B B' e e' z z' n n' : Nat} {v v' : Value} {xs xs' : List Value} (h : W.ownsRow B e z v n xs) (h' : W.ownsRow B' e' z' v' n' xs') (hne : e ≠ e') (g : Nat) (hg : v.ownBlock = some g) : some g ≠ v'.ownBlock := by
  intro he
  rcases h.2 with ⟨rfl, _⟩ | ⟨g1, _, _, rfl, _, h1, _⟩
  · simp [Value.ownBlock] at hg
  · rcases h'.2 with ⟨rfl, _⟩ | ⟨g2, _, _, rfl, _, h2, _⟩
    · simp [Value.ownBlock] at he
    · obtain rfl : g1 = g := by simpa [Value.ownBlock] using hg
      obtain rfl : g1 = g2 := by simpa [Value.ownBlock] using he
      rw [h1] at h2
      simp at h2
      exact hne h2.2
/-- the state of Parse's loop -/
structure PS (w0 : World) (b : Nat) (s : Bs) (R : Pr × Int × Int) (k : Nat) (rs : List RV) (t : Bs) (v : Value) (W : World) : Prop where
  rb : RB W b t v
  row : W.ownsRow (b + 1) 55 2 v rs.length (rvCells rs)
  its : ItsOwn (b + 1) rs W
  low : Below b w0 W
  go : parseGo k (rs.map (·.1)) t = R
  lt : t.length < k
  le : t.length ≤ s.length
  n24 : rs.length ≤ 24
theorem PS.next {w0 W W' : World} {b k : Nat} {s t t' : Bs} {R : Pr × Int × Int} {rs : List RV} {v v' iv : Value} {x : Rl} (h : PS w0 b s R (k + 1) rs t v W) (hne : t ≠ []) (h24 : rs.length ≠ 24) (hr : ruleP t = some (x, t'))
    (hrb : RB W' b t' v') (hrow : W'.ownsRow (b + 1) 55 2 v' (rs.length + 1) (rvCells (rs ++ [(x, iv)]))) (hiv : W'.ownsRow (b + 1) 59 3 iv x.2.length (itCells x.2)) (hf : Fr b v W W') (_hb0 : w0.heap.size ≤ W.heap.size) :
    PS w0 b s R k (rs ++ [(x, iv)]) t' v' W' := by
  have hlt := ruleP_lt hr
  have hgo := h.go
  unfold parseGo at hgo
  rw [if_neg (by simpa using hne), if_neg (by rw [List.length_map]; exact h24), hr] at hgo
  refine ⟨hrb, by rw [List.length_append, List.length_singleton]; exact hrow, ?_, h.low.trans (hf.low h.row h.rb.lt), ?_, by have := h.lt; omega, by have := h.le; omega, by have := h.n24; rw [List.length_append, List.length_singleton]; omega⟩
  · intro q hq
    rcases List.mem_append.1 hq with hq | hq
    · have h1 := h.its q hq
      exact own_same h1 fun g hg => hf.block g (h1.lt g hg).2 (by have := (h1.lt g hg).1; omega) (own_types h1 h.row (by decide) g hg)
    · obtain rfl : q = (x, iv) := by simpa using hq
      exact hiv
  · rw [List.map_append]
    exact hgo
theorem PS.lay {w0 W : World} {b k : Nat} {s t : Bs} {R : Pr × Int × Int} {rs : List RV} {v : Value} (h : PS w0 b s R k rs t v W) (hl : Lay w0) (hb : 2 < b) : Lay W := by
  obtain ⟨ev, h1, h2⟩ := hl
  exact ⟨ev, (h.low.cell (p := ⟨2, 0, none⟩) hb).trans h1, h2⟩

theorem rules_nil (w : World) : Rules w (.slice none 0 0) [] := ⟨none, 0, rfl, Nat.le_refl _, by decide, fun h => absurd rfl h⟩
theorem PS.rules {w0 W : World} {b k : Nat} {s t : Bs} {R : Pr × Int × Int} {rs : List RV} {v : Value} (h : PS w0 b s R k rs t v W) (g : Nat) (hg : g ≤ b) (u : Value) : Rules (W.setCell ⟨g, 0, none⟩ u) v (rs.map (·.1)) := by
  have hg2 : W.grownBy (W.setCell ⟨g, 0, none⟩ u) (some g) := grown_set (grownBel (Below.refl _ _) _) _ _
  have key : ∀ {e z n : Nat} {v : Value} {xs : List Value}, W.ownsRow (b + 1) e z v n xs → (W.setCell ⟨g, 0, none⟩ u).ownsRow (b + 1) e z v n xs := fun ho => ho.kept hg2 (by
    rename_i v _
    cases hv : v.ownBlock with
    | none => exact .inl rfl
    | some j => exact .inr (by have := (ho.lt j hv).1; simp; omega))
  exact rules_own (key h.row) fun q hq => key (h.its q hq)

theorem isE (t : Bs) : (bsA t).toList = t := by rw [Lib.toList_data, bsA_data]

set_option maxRecDepth 100000 in
set_option maxHeartbeats 4000000 in
theorem f24_any (s : Bs) (w : World) (hl : s.length ≤ 100000) (hlay : Lay w) :
    Calls Tryd.prog 24 #[.string (bsA s)] w (ParsePost s w) := by
  have hsz : 2 < w.heap.size := by
    obtain ⟨ev, h1, _⟩ := hlay
    exact World.block_lt_of_cell? w ⟨2, 0, none⟩ h1
  have HLAY := Lib.hid hlay
  clear hlay
  go_enter Tryd.func24, Tryd.ntmps24
  go_wp2_with fail
  obtain ⟨w0, hw0⟩ : ∃ w0, w0 = w.alloc (.cells #[.slice none 0 0] 24) := ⟨_, rfl⟩
  have hb0 : w.heap.size + 1 = w0.heap.size := by rw [hw0]; simp
  have hlw : Below w.heap.size w w0 := by rw [hw0]; exact (Below.refl _ _).alloc (Nat.le_refl _) _
  have hc0 : w0.heap[w.heap.size]? = some (.cells #[.slice none 0 0] 24 (0, 0)) := by rw [hw0]; exact World.alloc_heap_new _ _
  rw [hb0, ← hw0]
  obtain ⟨b, hb⟩ : ∃ b, b = w0.heap.size := ⟨_, rfl⟩
  rw [← hb] at hb0 ⊢
  have hP0 : PS w0 b s (parseF s) (s.length + 1) [] s (.slice none 0 0) (w0.alloc (.cells #[.string (bsA s), .slice none 0 0] 93)) :=
    ⟨by rw [hb]; exact World.alloc_heap_new _ _, World.ownsRow_nil _ _ _ _, fun q hq => (by simp at hq), by rw [hb]; exact (Below.refl _ _).alloc (Nat.le_refl _) _, rfl, Nat.lt_succ_self _, Nat.le_refl _, Nat.zero_le _⟩
  have HP0 := Lib.hid hP0
  have HW0 := Lib.hid hw0
  have HB := Lib.hid hb
  have HLW := Lib.hid hlw
  have HC0 := Lib.hid hc0
  have HL0 := Lib.hid (HLAY.out.below hlw)
  clear hP0 hw0 hb hlw hc0
  go_loopg [6] (s.length + 1) (fun g n wr => ∃ (rs : List RV) (t : Bs) (v : Value), n = .int .i64 ((rs.length : Int) + 1) ∧ PS w0 b s (parseF s) g rs t v wr)
  case atStart => exact ⟨[], s, .slice none 0 0, rfl, HP0.out⟩
  case round =>
    obtain ⟨rs, t, v, rfl, hps⟩ := hrel
    have HPS := Lib.hid hps
    have hbl : w.heap.size < b := by omega
    have hres : wr.heap[w.heap.size]? = some (.cells #[.slice none 0 0] 24 (0, 0)) := (hps.low.block _ hbl).trans HC0.out
    have r0 : wr.cell? ⟨w.heap.size, 0, none⟩ = some (.slice none 0 0) := by rw [cell_of_row wr _ 0 _ _ _ hres]; rfl
    have rf : wr.frozen? ⟨w.heap.size, 0, none⟩ = false := frozen_of_row wr _ 0 _ _ hres
    have hn24 := hps.n24
    have c0 := hps.rb.cell0
    have c1 := hps.rb.cell1
    have HLOW : Hid (Below w.heap.size w wr) := HLW.out.trans (hps.low.mono (by omega))
    have hbw : b < wr.heap.size := hps.rb.lt
    clear hps HP0
    cases gk with
    | zero => exact absurd HPS.out.lt (by omega)
    | succ g =>
      by_cases hne : t = []
      · subst hne
        have e1 : (bsA []).toList.isEmpty = true := by rw [isE]; rfl
        have e2 : (bsA []).toList = [] := by rw [isE]
        have hpf : parseF s = (rs.map (·.1), 0, 0) := by rw [← HPS.out.go]; rfl
        have HPF := Lib.hid hpf
        clear hpf
        obtain ⟨va, vc, rfl⟩ := own_slice HPS.out.row
        go_wp2_with fail
        exact bodyPost_ret (v := .tuple #[.agg #[.slice va rs.length vc], .int .i64 0, .int .i64 0]) (by simp [results, Tryd.results24, go_sem, r0]) rfl (mkParse HPF.out (.slice va rs.length vc) rfl (HPS.out.rules _ (by omega) _) (HLOW.out.setCell (p := ⟨w.heap.size, 0, none⟩) (Nat.le_refl _) _))
      · have e2 : (!(bsA t).toList.isEmpty) = true := by rw [isE]; simpa using hne
        have e1 : (bsA t).toList.isEmpty = false := by rw [isE]; simpa using hne
        have HNE := Lib.hid hne
        clear hne
        by_cases h24 : rs.length = 24
        · have d1 : decide (24 < (rs.length : Int) + 1) = true := by simp; omega
          have hpf : parseF s = ([], 25, 130) := by
            rw [← HPS.out.go]
            unfold parseGo
            rw [if_neg (by simpa using HNE.out), if_pos (by rw [List.length_map]; exact h24)]
          have HPF := Lib.hid hpf
          have H24 := Lib.hid h24
          clear hpf h24
          have hnv : (rs.length : Int) + 1 = 25 := by have := H24.out; omega
          have HNV := Lib.hid hnv
          clear hnv
          go_wp2_with fail
          exact bodyPost_ret (v := .tuple #[.agg #[.slice none 0 0], .int .i64 ((rs.length : Int) + 1), .int .i64 130]) (by simp [results, Tryd.results24, go_sem, r0]) rfl (mkParse HPF.out (.slice none 0 0) (by rw [HNV.out]) (rules_nil _) (HLOW.out.setCell (p := ⟨w.heap.size, 0, none⟩) (Nat.le_refl _) _))
        · have d1 : decide (24 < (rs.length : Int) + 1) = false := by simp; omega
          have hcall := f49_any b t v rs wr HPS.out.rb HPS.out.row (by have := HPS.out.le; omega) (HPS.out.lay HL0.out (by omega)) (by omega) (by omega)
          have H24 := Lib.hid h24
          cases hr : ruleP t with
          | none =>
            unfold RulePost at hcall
            rw [hr] at hcall
            simp only at hcall
            have hpf : parseF s = ([], (rs.length : Int) + 1, 130) := by
              rw [← HPS.out.go]
              unfold parseGo
              rw [if_neg (by simpa using HNE.out), if_neg (by rw [List.length_map]; exact h24), hr, List.length_map]
            have HPF := Lib.hid hpf
            have HCALL := Lib.hid hcall
            clear hpf hcall hr h24
            go_wp2_with (go_at_call 49; refine HCALL.out.mono ?_; rintro e w2 ⟨rfl, hb2⟩; have r1 := (hb2.cell (p := ⟨w.heap.size, 0, none⟩) hbl).trans r0; have rf1 := (hb2.frozen (p := ⟨w.heap.size, 0, none⟩) hbl).trans rf; have HB2 := Lib.hid (HLOW.out.trans (hb2.mono (by omega))); clear hb2)
            exact bodyPost_ret (v := .tuple #[.agg #[.slice none 0 0], .int .i64 ((rs.length : Int) + 1), .int .i64 130]) (by simp [results, Tryd.results24, go_sem, r1]) rfl (mkParse HPF.out (.slice none 0 0) rfl (rules_nil _) (HB2.out.setCell (p := ⟨w.heap.size, 0, none⟩) (Nat.le_refl _) _))
          | some q =>
            obtain ⟨x, t'⟩ := q
            unfold RulePost at hcall
            rw [hr] at hcall
            simp only at hcall
            have HCALL := Lib.hid hcall
            have HR := Lib.hid hr
            clear hcall hr h24
            go_wp2_with (go_at_call 49; refine HCALL.out.mono ?_; rintro e w2 ⟨rfl, v', iv, p1, p2, p3, p4⟩; have HN := Lib.hid (HPS.out.next HNE.out H24.out HR.out p1 p2 p3 p4 (HPS.out.low.size)); clear p1 p2 p3 p4)
            go_roundg g
            case measure => omega
            case rel => exact ⟨rs ++ [(x, iv)], t', v', by rw [List.length_append, List.length_singleton]; go_num, HN.out⟩
end Go.Proofs.YteilaajjpjhijaaDoor
