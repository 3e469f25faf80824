/- Walk of Made. -/
import Derived.Test.YteilaajjpjhijaaDoorXg
namespace Go.Proofs.YteilaajjpjhijaaDoor
open Go.RowKit PSpec

def MadePost (w : World) (e : Ending) (w' : World) : Prop := ∃ pv p, e = .returned (.agg #[pv]) ∧ Rules w' pv p ∧ mProt p ∧ Below w.heap.size w w'
theorem MS.post {w W : World} {rs : List RV} {v : Value} (h : MS (w.alloc (.cells #[.slice none 0 0] 24)) (w.heap.size + 1) rs v W) (u : Value) : MadePost w (.returned (.agg #[v])) (W.setCell ⟨w.heap.size, 0, none⟩ u) := by
  have hset : W.grownBy (W.setCell ⟨w.heap.size, 0, none⟩ u) (some w.heap.size) := grown_set (grownBel (Below.refl _ _) _) _ _
  have key : ∀ {e z n : Nat} {v : Value} {xs : List Value}, W.ownsRow (w.heap.size + 1 + 1) e z v n xs → (W.setCell ⟨w.heap.size, 0, none⟩ u).ownsRow (w.heap.size + 1 + 1) e z v n xs := fun ho => grown_kept ho hset fun j hj => by
    have := (ho.lt j hj).1; simp; omega
  refine ⟨v, _, rfl, rules_own (key h.row) fun q hq => key (h.its q hq), h.good, ?_⟩
  have h1 : Below w.heap.size w (w.alloc (.cells #[.slice none 0 0] 24)) := (Below.refl _ _).alloc (Nat.le_refl _) _
  exact (h1.trans (h.low.mono (by omega))).trans ((Below.refl _ _).setCell (p := ⟨w.heap.size, 0, none⟩) (Nat.le_refl _) _)
theorem pick_lt (z : Int) (n : Int) (hn : 0 < n) : 0 ≤ pickZ z n ∧ pickZ z n < n := by
  unfold pickZ
  exact ⟨Int.emod_nonneg _ (by omega), Int.emod_lt_of_pos _ hn⟩
theorem wrap_I64 (z : Int) : I64 (IntKind.i64.wrap z) := by
  rw [IntKind.wrap_i64]; unfold I64; omega
theorem MS.lowW {w W : World} {rs : List RV} {v : Value} (h : MS (w.alloc (.cells #[.slice none 0 0] 24)) (w.heap.size + 1) rs v W) : Below w.heap.size w W :=
  ((Below.refl _ _).alloc (Nat.le_refl _) _).trans (h.low.mono (by omega))
theorem fours_get {w : World} {xa : Option Addr} {n xc : Nat} (h : Fours w (.slice xa n xc) n) (hn : 0 < n) :
    ∃ b o, xa = some ⟨b, o, none⟩ ∧ ∀ i j : Nat, i < n → j < 4 → ∃ z : Int, I64 z ∧ w.cell? ⟨b, o + i * 4 + j, none⟩ = some (.int .i64 z) := by
  obtain ⟨a, c, e, _, _, h3⟩ := h
  obtain ⟨rfl, rfl⟩ : xa = a ∧ xc = c := by simpa using e
  exact h3 hn
theorem last_of {α : Type} {l : List α} (h : l ≠ []) : ∃ init q, l = init ++ [q] := by
  obtain ⟨i, q, e⟩ := (List.eq_nil_or_concat l).resolve_left h
  exact ⟨i, q, by rw [e, List.concat_eq_append]⟩
theorem rvCells_last (init : List RV) (q : RV) : (rvCells (init ++ [q]))[init.length * 2 + 1]? = some q.2 := by
  rw [rvCells_snoc, List.getElem?_append_right (by rw [rvCells_len]; omega), rvCells_len, show init.length * 2 + 1 - init.length * 2 = 1 by omega]
  rfl
set_option maxRecDepth 100000 in
set_option maxHeartbeats 8000000 in
theorem f11_any (xv : Value) (n : Nat) (w : World) (hx : Fours w xv n) : Calls Tryd.prog 11 #[xv] w (MadePost w) := by
  have HX := Lib.hid hx
  obtain ⟨xa, xc, rfl, xz1, xz2, _⟩ := hx
  unfold maxLen at xz2
  have b0 : Below w.heap.size w (w.alloc (.cells #[.slice none 0 0] 24)) := (Below.refl _ _).alloc (Nat.le_refl _) _
  have hms : MS (w.alloc (.cells #[.slice none 0 0] 24)) (w.heap.size + 1) [] (.slice none 0 0) ((w.alloc (.cells #[.slice none 0 0] 24)).alloc (.cells #[.slice none 0 0] 24)) := by
    refine ⟨?_, World.ownsRow_nil _ _ _ _, fun q hq => by simp at hq, fun init q e => by simp at e, (Below.refl _ _).alloc (by simp) _, ⟨by simp, fun r hr => by simp at hr⟩⟩
    rw [show w.heap.size + 1 = (w.alloc (.cells #[.slice none 0 0] 24)).heap.size by simp [World.size_alloc]]; exact World.alloc_heap_new _ _
  have HMS := Lib.hid hms
  have B0 := Lib.hid b0
  clear hms b0
  go_enter Tryd.func11, Tryd.ntmps11
  go_wp2_with fail
  go_loopw [4] (fun i wr => ∃ (k : Nat) (rs : List RV) (v : Value), i = .int .i64 k ∧ k ≤ n ∧ k ≤ 32 ∧ (rs = [] ↔ k = 0) ∧ MS (w.alloc (.cells #[.slice none 0 0] 24)) (w.heap.size + 1) rs v wr) (fun i _ => n - (intOf i).toNat)
  case atStart => exact ⟨0, [], .slice none 0 0, rfl, by omega, by omega, by simp, HMS.out⟩
  case round =>
    obtain ⟨k, rs, v, rfl, hk, hk32, hne, hm⟩ := hrel
    clear HMS
    have h8 : rs.length ≤ 8 := by have := hm.good.1; simpa using this
    obtain ⟨va, vc, rfl⟩ := own_slice hm.row
    have hsz : w.heap.size + 1 < wr.heap.size := heap_lt hm.pb
    have p0 : wr.cell? ⟨w.heap.size + 1, 0, none⟩ = some (.slice va rs.length vc) := (cell_of_row wr _ 0 _ _ _ hm.pb).trans rfl
    have pf : wr.frozen? ⟨w.heap.size + 1, 0, none⟩ = false := frozen_of_row wr _ 0 _ _ hm.pb
    have hr1 : wr.heap[w.heap.size]? = some (.cells #[.slice none 0 0] 24 (0, 0)) := (hm.low.block _ (by omega)).trans (World.alloc_heap_new _ _)
    have r0 : wr.cell? ⟨w.heap.size, 0, none⟩ = some (.slice none 0 0) := (cell_of_row wr _ 0 _ _ _ hr1).trans rfl
    have rf : wr.frozen? ⟨w.heap.size, 0, none⟩ = false := frozen_of_row wr _ 0 _ _ hr1
    have HM := Lib.hid hm
    have HNE := Lib.hid hne
    have HXr : Hid (Fours wr (.slice xa n xc) n) := HX.out.below (B0.out.trans (hm.low.mono (by omega)))
    clear hm hne hr1
    by_cases hlt : k < n
    · by_cases h32 : k < 32
      · obtain ⟨xb, xo, rfl, hc⟩ := fours_get HX.out (by omega)
        obtain ⟨z0, hz0, d0⟩ := hc k 0 hlt (by omega)
        obtain ⟨z1, hz1, d1⟩ := hc k 1 hlt (by omega)
        obtain ⟨z2, hz2, d2⟩ := hc k 2 hlt (by omega)
        obtain ⟨z3, hz3, d3⟩ := hc k 3 hlt (by omega)
        rw [Nat.add_zero] at d0
        have c0 := keeps_of_below HM.out.lowW _ _ d0
        have HZ0 := Lib.hid hz0
        have HZ1 := Lib.hid hz1
        have HZ2 := Lib.hid hz2
        have HZ3 := Lib.hid hz3
        have D0 := Lib.hid d0
        have D1 := Lib.hid d1
        have D2 := Lib.hid d2
        have D3 := Lib.hid d3
        have k0 : (0 : Int) ≤ (k : Int) := by omega
        have k1 : (k : Int) < (n : Int) := by omega
        clear hc hz0 hz1 hz2 hz3 d0 d1 d2 d3 HXr
        by_cases hk0 : k = 0
        · subst hk0
          obtain rfl : rs = [] := HNE.out.2 rfl
          go_wp2_with fail
          obtain ⟨i0, HI0⟩ := part55
          obtain ⟨oo, hoo⟩ : ∃ oo, oo = pickZ (IntKind.i64.wrap (z0.tdiv 5)) 4 := ⟨_, rfl⟩
          have hfo : Four oo := by have := pick_lt (IntKind.i64.wrap (z0.tdiv 5)) 4 (by decide); rw [hoo]; exact this
          have hq29 : ∀ w' : World, Calls Tryd.prog 29 #[.int .i64 (IntKind.i64.wrap (z0.tdiv 5)), .int .i64 4] w' fun e w'' => e = .returned (.int .i64 oo) ∧ w' = w'' := fun w' => by rw [hoo]; exact f29_any _ 4 w' (wrap_I64 _) (by decide) (by decide)
          have HQ29 := Lib.hid hq29
          have HFO := Lib.hid hfo
          clear hoo hfo hq29
          refine wp_region_ordQ 13 [(0, true), (1, true), (2, true), (3, true), (4, true), (5, true), (6, true), (7, true), (8, true), (9, true), (10, false), (11, false), (12, true), (13, false)] (fun w' => w'.cell? ⟨w.heap.size + 1, 0, none⟩ = some (.slice va 0 vc) ∧ w'.cell? ⟨xb, xo + 0 * 4, none⟩ = some (.int .i64 z0))
            (by kernel_rfl) (by kernel_rfl) (by kernel_rfl) rfl (by kernel_rfl) (fun _ _ d _ _ h => by cases d <;> exact h) ⟨p0, c0⟩ ?_
          refine wpP_light _ rfl rfl _ (fun w' hS => by go_simp; rfl) ?_
          refine wpP_light _ rfl rfl _ (fun w' hS => by obtain ⟨s1, s2⟩ := hS; go_simp; rfl) ?_
          refine wpP_light _ rfl rfl _ (fun w' hS => by go_simp; rfl) ?_
          refine wpP_light _ rfl rfl _ (fun w' hS => by go_simp; rfl) ?_
          go_simp
          refine wpP_light _ rfl rfl _ (fun w' hS => by go_simp; rfl) ?_
          refine wpP_light _ rfl rfl _ (fun w' hS => by go_simp; rfl) ?_
          refine wpP_light _ rfl rfl _ (fun w' hS => by obtain ⟨s1, s2⟩ := hS; go_simp; rfl) ?_
          go_simp
          refine wpP_light _ rfl rfl _ (fun w' hS => by go_simp; rfl) ?_
          go_simp
          refine wpP_quiet _ rfl rfl _ 29 #[.int .i64 (IntKind.i64.wrap (z0.tdiv 5)), .int .i64 4] (fun w' hS => by go_simp) HQ29.out ?_
          refine wpP_light _ rfl rfl _ (fun w' hS => by go_simp; rfl) ?_
          go_simp
          have bV : Below wr.drew.heap.size wr.drew (wr.drew.alloc (.cells #[.int .i64 oo, .slice none 0 0] 55)) := (Below.refl _ _).alloc (Nat.le_refl _) _
          have HMd := Lib.hid ((HM.out.below (Below.refl _ _).drew).below bV)
          refine wpP_value _ rfl rfl (.slice (some ⟨wr.heap.size, 0, none⟩) 1 1) (wr.drew.alloc (.cells #[.int .i64 oo, .slice none 0 0] 55)) ?_ ⟨.inr ⟨?_, ?_⟩, ?_⟩
          · go_simp
          · exact keeps_of_below bV _ _ p0
          · exact keeps_of_below bV _ _ c0
          refine wpP_append _ rfl rfl (.tmp 54) (.tmp 63) 22 rfl (w.heap.size + 1 + 1) 55 i0 (.agg #[.int .i64 0, .slice none 0 0]) 2 32 Tryd.underlying22 HI0.out.1 HI0.out.2.1 HI0.out.2.2.1 HI0.out.2.2.2 rfl (by decide) (.slice va 0 vc) 0 (rvCells ([])) rfl (by have := HMd.out.row; skip; exact this) ⟨wr.heap.size, 0, none⟩ 1 1 [.int .i64 oo, .slice none 0 0] rfl rfl ?_ ?_ ?_ ?_ ?_ ?_
          · exact new_cells _ [.int .i64 oo, .slice none 0 0] 55 _ rfl
          · intro u hu
            simp only [List.mem_cons, List.not_mem_nil, or_false] at hu
            rcases hu with rfl | rfl <;> rfl
          · unfold maxLen; omega
          · omega
          · simp; omega
          intro v1 w1 ho1 hg1 _
          have hb1 : w1.heap[w.heap.size + 1]? = some (.cells #[.slice va 0 vc] 24 (0, 0)) := (hg1.block _ (heap_lt HMd.out.pb) (fun e => by have := (HMd.out.row.lt _ e.symm).1; omega)).trans HMd.out.pb
          have hl1 : Below w.heap.size w w1 := HMd.out.lowW.grown hg1 HMd.out.lowW.size (fun j e => by have := (HMd.out.row.lt j e).1; omega)
          have q0 : w1.cell? ⟨w.heap.size + 1, 0, none⟩ = some (.slice va 0 vc) := (cell_of_row w1 _ 0 _ _ _ hb1).trans rfl
          have qf : w1.frozen? ⟨w.heap.size + 1, 0, none⟩ = false := frozen_of_row w1 _ 0 _ _ hb1
          obtain ⟨g1, vc1, rfl⟩ := ownsRow_succ ho1
          have HM1 := Lib.hid (HMd.out.addRule (op := oo) (by simp) (by first | (simp; done) | omega) HFO.out (by skip; exact ho1) hg1)
          refine ⟨.inr ⟨q0, keeps_of_below hl1 _ _ D0.out⟩, ?_⟩
          refine wpP_light _ rfl rfl _ (fun w' hS => by go_simp; rfl) ?_
          go_simp
          refine wpP_skipH _ rfl rfl (w1.setCell ⟨w.heap.size + 1, 0, none⟩ (.slice (some ⟨g1, 0, none⟩) (0 + 1) vc1)) ?_ ⟨.inl rfl, ?_⟩
          · go_simp
          refine wpP_nil ?_
          obtain ⟨W, hW⟩ : ∃ W, W = w1.setCell ⟨w.heap.size + 1, 0, none⟩ (.slice (some ⟨g1, 0, none⟩) (0 + 1) vc1) := ⟨_, rfl⟩
          rw [← hW] at HM1 ⊢
          clear hW q0 qf hb1 hl1 ho1 hg1 bV HMd p0 pf c0
          obtain ⟨init, its, ia, ic, qo, g, vc, HM, h4, h8⟩ : ∃ (init : List RV) (its : List It) (ia : Option Addr) (ic : Nat) (qo : Int) (g vc : Nat), Hid (MS (w.alloc (.cells #[.slice none 0 0] 24)) (w.heap.size + 1) (init ++ [((qo, its), .slice ia its.length ic)]) (.slice (some ⟨g, 0, none⟩) (init.length + 1) vc) W) ∧ its.length < 4 ∧ init.length + 1 ≤ 8 := ⟨[], [], none, 0, oo, g1, vc1, (by skip; exact HM1), by simp, by first | (simp; done) | omega⟩
          clear HM1
          have p0 : W.cell? ⟨w.heap.size + 1, 0, none⟩ = some (.slice (some ⟨g, 0, none⟩) (init.length + 1) vc) := (cell_of_row W _ 0 _ _ _ HM.out.pb).trans rfl
          have c3 := keeps_of_below HM.out.lowW _ _ D3.out
          obtain ⟨m, hq3, hm⟩ : ∃ m : Nat, (∀ w' : World, Calls Tryd.prog 29 #[.int .i64 z3, .int .i64 3] w' fun e w'' => e = .returned (.int .i64 (m : Int)) ∧ w' = w'') ∧ m < 3 := by
            have h := pick_lt z3 3 (by decide)
            refine ⟨(pickZ z3 3).toNat, fun w' => ?_, by omega⟩
            rw [Int.toNat_of_nonneg h.1]; exact f29_any _ 3 w' HZ3.out (by decide) (by decide)
          obtain ⟨l2, hq2, hl2⟩ : ∃ m : Nat, (∀ w' : World, Calls Tryd.prog 29 #[.int .i64 z2, .int .i64 4] w' fun e w'' => e = .returned (.int .i64 (m : Int)) ∧ w' = w'') ∧ m < 4 := by
            have h := pick_lt z2 4 (by decide)
            refine ⟨(pickZ z2 4).toNat, fun w' => ?_, by omega⟩
            rw [Int.toNat_of_nonneg h.1]; exact f29_any _ 4 w' HZ2.out (by decide) (by decide)
          obtain ⟨o1, hq1, ho1⟩ : ∃ m : Nat, (∀ w' : World, Calls Tryd.prog 29 #[.int .i64 z1, .int .i64 4] w' fun e w'' => e = .returned (.int .i64 (m : Int)) ∧ w' = w'') ∧ m < 4 := by
            have h := pick_lt z1 4 (by decide)
            refine ⟨(pickZ z1 4).toNat, fun w' => ?_, by omega⟩
            rw [Int.toNat_of_nonneg h.1]; exact f29_any _ 4 w' HZ1.out (by decide) (by decide)
          have HQ1 := Lib.hid hq1
          have HQ2 := Lib.hid hq2
          have HQ3 := Lib.hid hq3
          clear hq1 hq2 hq3
          go_wp2_with (go_at_call 29; refine (HQ3.out _).mono ?_; rintro e w1 ⟨rfl, rfl⟩)
          have c1 := keeps_of_below HM.out.lowW _ _ D1.out
          have c2 := keeps_of_below HM.out.lowW _ _ D2.out
          refine wp_region_ordQ 17 [(0, true), (1, true), (2, true), (3, true), (4, true), (5, true), (6, true), (7, true), (8, true), (9, true), (10, true), (11, true), (12, true), (13, true), (14, true), (15, true), (16, false), (17, false)] (fun w' => w'.cell? ⟨xb, xo + 0 * 4 + 1, none⟩ = some (.int .i64 z1) ∧ w'.cell? ⟨xb, xo + 0 * 4 + 2, none⟩ = some (.int .i64 z2))
            (by kernel_rfl) (by kernel_rfl) (by kernel_rfl) rfl (by kernel_rfl) (fun _ _ d _ _ h => by cases d <;> exact h) ⟨c1, c2⟩ ?_
          refine wpP_light _ rfl rfl _ (fun w' hS => by go_simp; rfl) ?_
          refine wpP_light _ rfl rfl _ (fun w' hS => by go_simp; rfl) ?_
          refine wpP_light _ rfl rfl _ (fun w' hS => by go_simp; rfl) ?_
          go_simp
          refine wpP_light _ rfl rfl _ (fun w' hS => by go_simp; rfl) ?_
          refine wpP_light _ rfl rfl _ (fun w' hS => by obtain ⟨s1, s2⟩ := hS; go_simp; rfl) ?_
          go_simp
          refine wpP_quiet _ rfl rfl _ 29 #[.int .i64 z1, .int .i64 4] (fun w' hS => by go_simp) HQ1.out ?_
          refine wpP_light _ rfl rfl _ (fun w' hS => by go_simp; rfl) ?_
          refine wpP_light _ rfl rfl _ (fun w' hS => by go_simp; rfl) ?_
          refine wpP_light _ rfl rfl _ (fun w' hS => by go_simp; rfl) ?_
          go_simp
          refine wpP_light _ rfl rfl _ (fun w' hS => by go_simp; rfl) ?_
          refine wpP_light _ rfl rfl _ (fun w' hS => by go_simp; rfl) ?_
          refine wpP_light _ rfl rfl _ (fun w' hS => by obtain ⟨s1, s2⟩ := hS; go_simp; rfl) ?_
          go_simp
          refine wpP_quiet _ rfl rfl _ 29 #[.int .i64 z2, .int .i64 4] (fun w' hS => by go_simp) HQ2.out ?_
          refine wpP_light _ rfl rfl _ (fun w' hS => by go_simp; rfl) ?_
          refine wpP_light _ rfl rfl _ (fun w' hS => by go_simp; rfl) ?_
          refine wpP_light _ rfl rfl _ (fun w' hS => by go_simp; rfl) ?_
          go_simp
          have bV : ∀ o : Obj, Below W.heap.size W (W.drew.alloc o) := fun o => (Below.refl _ W).drew.alloc (Nat.le_refl _) _
          refine wpP_value _ rfl rfl (.pointer (some ⟨W.heap.size, 0, none⟩)) (W.drew.alloc (.cells #[.int .i64 0, .int .i64 0, .int .i64 0] 59)) ?_ ⟨.inr ⟨keeps_of_below (bV _) _ _ c1, keeps_of_below (bV _) _ _ c2⟩, ?_⟩
          · go_simp
          go_simp
          refine wpP_skipH _ rfl rfl (W.drew.alloc (.cells #[.int .i64 o1, .int .i64 (min (1 + m) l2), .int .i64 (1 + m)] 59)) ?_ ⟨.inl rfl, ?_⟩
          · go_simp
          refine wpP_nil ?_
          have hM2 := HM.out.below (bV (.cells #[.int .i64 o1, .int .i64 (min (1 + m) l2), .int .i64 (1 + m)] 59))
          have hY2 : (W.drew.alloc (.cells #[.int .i64 o1, .int .i64 (min (1 + m) l2), .int .i64 (1 + m)] 59)).heap[W.heap.size]? = some (.cells #[.int .i64 o1, .int .i64 (min (1 + m) l2), .int .i64 (1 + m)] 59 (0, 0)) := World.alloc_heap_new W.drew _
          have hiY : ∀ j, (Value.slice ia its.length ic).ownBlock = some j → j < W.heap.size := fun j hj => ((HM.out.its ((qo, its), .slice ia its.length ic) (by simp)).lt j hj).2
          obtain ⟨V, hV⟩ : ∃ V, V = W.drew.alloc (.cells #[.int .i64 o1, .int .i64 (min (1 + m) l2), .int .i64 (1 + m)] 59) := ⟨_, rfl⟩
          rw [← hV] at hM2 hY2 ⊢
          clear hV bV c1 c2 c3 p0 HM
          obtain ⟨Y, hY⟩ : ∃ Y, Y = W.heap.size := ⟨_, rfl⟩
          rw [← hY] at hY2 hiY ⊢
          have p0 : V.cell? ⟨w.heap.size + 1, 0, none⟩ = some (.slice (some ⟨g, 0, none⟩) (init.length + 1) vc) := (cell_of_row V _ 0 _ _ _ hM2.pb).trans rfl
          have HM2 := Lib.hid hM2
          have HIY := Lib.hid hiY
          have HY2 := Lib.hid hY2
          clear hY hM2 hiY hY2
          go_wp2_with fail
          obtain ⟨i0, HI0⟩ := part59
          have hrow : V.ownsRow (w.heap.size + 1 + 1) 55 2 (.slice (some ⟨g, 0, none⟩) (init.length + 1) vc) (init.length + 1) (rvCells (init ++ [((qo, its), .slice ia its.length ic)])) := by
            have := HM2.out.row
            rwa [show (init ++ [((qo, its), Value.slice ia its.length ic)]).length = init.length + 1 by simp] at this
          have e1 : V.cell? ⟨g, init.length * 2 + 1, none⟩ = some (.slice ia its.length ic) := by
            have := hrow.cells (g := g) rfl _ _ (rvCells_last init _)
            rw [Addr.add_mid, Nat.zero_add] at this
            exact this
          have y0 : V.cell? ⟨Y, 0, none⟩ = some (.int .i64 o1) := (cell_of_row V _ 0 _ _ _ HY2.out).trans rfl
          have y1 : V.cell? ⟨Y, 1, none⟩ = some (.int .i64 (min (1 + m) l2)) := (cell_of_row V _ 1 _ _ _ HY2.out).trans rfl
          have y2 : V.cell? ⟨Y, 2, none⟩ = some (.int .i64 (1 + m)) := (cell_of_row V _ 2 _ _ _ HY2.out).trans rfl
          have hgY : g ≠ Y := by
            rintro rfl
            rcases hrow.2 with ⟨e0, _⟩ | ⟨g', cap', cur, e0, _, hg', _⟩
            · cases e0
            · injection e0 with e0; injection e0 with e0; injection e0 with e0; subst e0
              have := HY2.out.symm.trans hg'
              simp at this
          have HROW := Lib.hid hrow
          have hlt1 : (init.length : Int) < (init.length : Int) + 1 := by omega
          have HGY := Lib.hid hgY
          clear hrow hgY
          refine wp_region_ordQ 14 [(0, true), (1, true), (2, true), (3, true), (4, true), (5, true), (6, true), (7, true), (8, true), (9, true), (10, false), (11, false), (12, true), (13, true), (14, false)] (fun w' => w'.cell? ⟨w.heap.size + 1, 0, none⟩ = some (.slice (some ⟨g, 0, none⟩) (init.length + 1) vc) ∧ w'.cell? ⟨g, init.length * 2 + 1, none⟩ = some (.slice ia its.length ic) ∧ w'.cell? ⟨Y, 0, none⟩ = some (.int .i64 o1) ∧ w'.cell? ⟨Y, 1, none⟩ = some (.int .i64 (min (1 + m) l2)) ∧ w'.cell? ⟨Y, 2, none⟩ = some (.int .i64 (1 + m)))
            (by kernel_rfl) (by kernel_rfl) (by kernel_rfl) rfl (by kernel_rfl) (fun _ _ d _ _ h => by cases d <;> exact h) ⟨p0, e1, y0, y1, y2⟩ ?_
          refine wpP_light _ rfl rfl _ (fun w' hS => by go_simp; rfl) ?_
          refine wpP_light _ rfl rfl _ (fun w' hS => by obtain ⟨s1, s2, s3, s4, s5⟩ := hS; go_simp; rfl) ?_
          refine wpP_light _ rfl rfl _ (fun w' hS => by go_simp; rfl) ?_
          go_simp
          refine wpP_light _ rfl rfl _ (fun w' hS => by go_simp; rfl) ?_
          refine wpP_light _ rfl rfl _ (fun w' hS => by obtain ⟨s1, s2, s3, s4, s5⟩ := hS; go_simp; rfl) ?_
          refine wpP_light _ rfl rfl _ (fun w' hS => by go_simp; rfl) ?_
          go_simp
          refine wpP_light _ rfl rfl _ (fun w' hS => by go_simp; rfl) ?_
          refine wpP_light _ rfl rfl _ (fun w' hS => by go_simp; rfl) ?_
          refine wpP_light _ rfl rfl _ (fun w' hS => by obtain ⟨s1, s2, s3, s4, s5⟩ := hS; go_simp; rfl) ?_
          go_simp
          refine wpP_light _ rfl rfl _ (fun w' hS => by obtain ⟨s1, s2, s3, s4, s5⟩ := hS; go_simp; rfl) ?_
          go_simp
          have bX : Below V.heap.size V (V.drew.alloc (.cells #[.int .i64 o1, .int .i64 (min (1 + m) l2), .int .i64 (1 + m)] 59)) := (Below.refl _ V).drew.alloc (Nat.le_refl _) _
          have HMx := Lib.hid (HM2.out.below bX)
          refine wpP_value _ rfl rfl (.slice (some ⟨V.heap.size, 0, none⟩) 1 1) (V.drew.alloc (.cells #[.int .i64 o1, .int .i64 (min (1 + m) l2), .int .i64 (1 + m)] 59)) ?_ ⟨.inr ⟨keeps_of_below bX _ _ p0, keeps_of_below bX _ _ e1, keeps_of_below bX _ _ y0, keeps_of_below bX _ _ y1, keeps_of_below bX _ _ y2⟩, ?_⟩
          · go_simp
          have hox : (V.drew.alloc (.cells #[.int .i64 o1, .int .i64 (min (1 + m) l2), .int .i64 (1 + m)] 59)).ownsRow (w.heap.size + 1 + 1) 59 3 (.slice ia its.length ic) its.length (itCells its) := HMx.out.its ((qo, its), .slice ia its.length ic) (by simp)
          have HOX := Lib.hid hox
          clear hox
          refine wpP_append _ rfl rfl (.tmp 101) (.tmp 103) 53 rfl (w.heap.size + 1 + 1) 59 i0 (.agg #[.int .i64 0, .int .i64 0, .int .i64 0]) 3 24 Tryd.underlying53 HI0.out.1 HI0.out.2.1 HI0.out.2.2.1 HI0.out.2.2.2 rfl (by decide) (.slice ia its.length ic) its.length (itCells its) rfl HOX.out ⟨V.heap.size, 0, none⟩ 1 1 [.int .i64 o1, .int .i64 (min (1 + m) l2), .int .i64 (1 + m)] rfl rfl ?_ ?_ ?_ ?_ ?_ ?_
          · exact new_cells _ [.int .i64 o1, .int .i64 (min (1 + m) l2), .int .i64 (1 + m)] 59 _ rfl
          · intro u hu
            simp only [List.mem_cons, List.not_mem_nil, or_false] at hu
            rcases hu with rfl | rfl | rfl <;> rfl
          · unfold maxLen; omega
          · omega
          · have := HMx.out.lowW.size; have := heap_lt HMx.out.pb; omega
          intro v1 w1 ho1 hg1 hat
          have far : ∀ (a : Addr) (u : Value), a.block < V.heap.size → (Value.slice ia its.length ic).ownBlock ≠ some a.block → V.cell? a = some u → w1.cell? a = some u := fun a u _ hne hc => by
            exact hg1.cell (keeps_of_below bX _ _ hc) (fun e => hne e.symm)
          have nb : (Value.slice ia its.length ic).ownBlock ≠ some (w.heap.size + 1) := fun e => by have := (HOX.out.lt _ e).1; omega
          have ng : (Value.slice ia its.length ic).ownBlock ≠ some g := fun e => by
            have := own_types HOX.out HMx.out.row (by decide) g e
            simp [Value.ownBlock] at this
          have nY : (Value.slice ia its.length ic).ownBlock ≠ some Y := fun e => by have := HIY.out _ e; omega
          have hlY : Y < V.heap.size := heap_lt HY2.out
          have hlg : g < V.heap.size := (HROW.out.lt g rfl).2
          have hlb : w.heap.size + 1 < V.heap.size := heap_lt HM2.out.pb
          have s1 := far ⟨w.heap.size + 1, 0, none⟩ _ hlb nb p0
          have s2 := far ⟨g, init.length * 2 + 1, none⟩ _ hlg ng e1
          have s3 := far ⟨Y, 0, none⟩ _ hlY nY y0
          have s4 := far ⟨Y, 1, none⟩ _ hlY nY y1
          have s5 := far ⟨Y, 2, none⟩ _ hlY nY y2
          have sf : w1.frozen? ⟨g, init.length * 2 + 1, none⟩ = false := by
            have hr1 := grown_kept HROW.out (grown_trans (grownBel bX _) hg1) (fun j hj => by
              have := own_types HROW.out (HM2.out.its ((qo, its), .slice ia its.length ic) (by simp)) (by decide) j hj
              exact this)
            rcases hr1.2 with ⟨e0, _⟩ | ⟨g', cap', cur, e0, _, hg', _⟩
            · cases e0
            · injection e0 with e0; injection e0 with e0; injection e0 with e0; subst e0
              exact frozen_of_row w1 _ _ _ _ hg'
          have hx : mItem ((o1 : Int), min (1 + (m : Int)) l2, 1 + (m : Int)) := by
            unfold mItem Four; simp only; omega
          have HM4 := Lib.hid (HMx.out.addItem (x := ((o1 : Int), min (1 + (m : Int)) l2, 1 + (m : Int))) (by simp) h4 hx ho1 hg1 hat)
          obtain ⟨a1, c1', rfl⟩ := own_slice ho1
          refine ⟨.inr ⟨s1, s2, s3, s4, s5⟩, ?_⟩
          clear far nb ng nY s3 s4 s5 ho1 hg1 hat
          refine wpP_light _ rfl rfl _ (fun w' hS => by go_simp; rfl) ?_
          refine wpP_light _ rfl rfl _ (fun w' hS => by go_simp; rfl) ?_
          go_simp
          refine wpP_skipH _ rfl rfl (w1.setCell ⟨g, init.length * 2 + 1, none⟩ (.slice a1 (its.length + 1) c1')) ?_ ⟨.inl rfl, ?_⟩
          · go_simp
          refine wpP_nil ?_
          obtain ⟨U, hU⟩ : ∃ U, U = w1.setCell ⟨g, init.length * 2 + 1, none⟩ (.slice a1 (its.length + 1) c1') := ⟨_, rfl⟩
          rw [← hU] at HM4 ⊢
          clear hU s1 s2 sf p0 e1 y0 y1 y2 HMx HM2 HOX HROW bX
          go_wp2_with fail
          exact ⟨⟨0 + 1, _, _, by go_num, by omega, by omega, by simp, HM4.out⟩, by simp only [intOf]; omega⟩

        · have hkne : ((k : Int) == 0) = false := by simpa using hk0
          have hrn : rs ≠ [] := fun e => hk0 (HNE.out.1 e)
          obtain ⟨init, q, rfl⟩ := last_of hrn
          have hlen : (init ++ [q]).length = init.length + 1 := by simp
          rw [hlen] at p0 h8
          obtain ⟨⟨qo, its⟩, iv⟩ := q
          have ho : wr.ownsRow (w.heap.size + 1 + 1) 59 3 iv its.length (itCells its) := HM.out.its ((qo, its), iv) (by simp)
          obtain ⟨ia, ic, rfl⟩ := own_slice ho
          obtain ⟨g, rfl⟩ : ∃ g, va = some ⟨g, 0, none⟩ := by
            have hr := HM.out.row
            rw [hlen] at hr
            obtain ⟨g, cap, hv⟩ := ownsRow_succ hr
            exact ⟨g, by simpa using congrArg (fun v => match v with | Value.slice a _ _ => a | _ => none) hv⟩
          have e1 : wr.cell? ⟨g, init.length * 2 + 1, none⟩ = some (.slice ia its.length ic) := by
            have := HM.out.row.cells (g := g) rfl _ _ (rvCells_last init _)
            rw [Addr.add_mid, Nat.zero_add] at this
            exact this
          have hcap : init.length + 1 ≤ vc := by
            have hr := HM.out.row
            rw [hlen] at hr
            rcases hr.2 with ⟨e0, _⟩ | ⟨g', cap', cur, e0, _, _, hn, _⟩
            · cases e0
            · injection e0 with _ _ e3; omega
          have hi4 : its.length ≤ 4 := (HM.out.good.2 (qo, its) (by simp)).2.1
          have hr2 : MS (w.alloc (.cells #[.slice none 0 0] 24)) (w.heap.size + 1) (init ++ [((qo, its), .slice ia its.length ic)]) (.slice (some ⟨g, 0, none⟩) (init.length + 1) vc) wr := by
            have := HM.out
            rwa [hlen] at this
          clear HM
          have HM := Lib.hid hr2
          clear hr2
          obtain ⟨qq, hqq⟩ : ∃ qq, (pickZ z0 5 == 0) = qq := ⟨_, rfl⟩
          clear ho hrn
          by_cases h88 : init.length + 1 < 8
          · have d8 : decide ((init.length : Int) + 1 < 8) = true := by simp; omega
            cases qq
            · by_cases h4 : its.length = 4
              · have d4 : ((its.length : Int) == 4) = true := by simp; omega
                go_wp2_with (go_at_call 29; refine (f29_any _ 5 _ HZ0.out (by decide) (by decide)).mono ?_; rintro e w1 ⟨rfl, rfl⟩)
                obtain ⟨i0, HI0⟩ := part55
                obtain ⟨oo, hoo⟩ : ∃ oo, oo = pickZ (IntKind.i64.wrap (z0.tdiv 5)) 4 := ⟨_, rfl⟩
                have hfo : Four oo := by have := pick_lt (IntKind.i64.wrap (z0.tdiv 5)) 4 (by decide); rw [hoo]; exact this
                have hq29 : ∀ w' : World, Calls Tryd.prog 29 #[.int .i64 (IntKind.i64.wrap (z0.tdiv 5)), .int .i64 4] w' fun e w'' => e = .returned (.int .i64 oo) ∧ w' = w'' := fun w' => by rw [hoo]; exact f29_any _ 4 w' (wrap_I64 _) (by decide) (by decide)
                have HQ29 := Lib.hid hq29
                have HFO := Lib.hid hfo
                clear hoo hfo hq29
                refine wp_region_ordQ 13 [(0, true), (1, true), (2, true), (3, true), (4, true), (5, true), (6, true), (7, true), (8, true), (9, true), (10, false), (11, false), (12, true), (13, false)] (fun w' => w'.cell? ⟨w.heap.size + 1, 0, none⟩ = some (.slice (some ⟨g, 0, none⟩) (init.length + 1) vc) ∧ w'.cell? ⟨xb, xo + k * 4, none⟩ = some (.int .i64 z0))
                  (by kernel_rfl) (by kernel_rfl) (by kernel_rfl) rfl (by kernel_rfl) (fun _ _ d _ _ h => by cases d <;> exact h) ⟨p0, c0⟩ ?_
                refine wpP_light _ rfl rfl _ (fun w' hS => by go_simp; rfl) ?_
                refine wpP_light _ rfl rfl _ (fun w' hS => by obtain ⟨s1, s2⟩ := hS; go_simp; rfl) ?_
                refine wpP_light _ rfl rfl _ (fun w' hS => by go_simp; rfl) ?_
                refine wpP_light _ rfl rfl _ (fun w' hS => by go_simp; rfl) ?_
                go_simp
                refine wpP_light _ rfl rfl _ (fun w' hS => by go_simp; rfl) ?_
                refine wpP_light _ rfl rfl _ (fun w' hS => by go_simp; rfl) ?_
                refine wpP_light _ rfl rfl _ (fun w' hS => by obtain ⟨s1, s2⟩ := hS; go_simp; rfl) ?_
                go_simp
                refine wpP_light _ rfl rfl _ (fun w' hS => by go_simp; rfl) ?_
                go_simp
                refine wpP_quiet _ rfl rfl _ 29 #[.int .i64 (IntKind.i64.wrap (z0.tdiv 5)), .int .i64 4] (fun w' hS => by go_simp) HQ29.out ?_
                refine wpP_light _ rfl rfl _ (fun w' hS => by go_simp; rfl) ?_
                go_simp
                have bV : Below wr.drew.heap.size wr.drew (wr.drew.alloc (.cells #[.int .i64 oo, .slice none 0 0] 55)) := (Below.refl _ _).alloc (Nat.le_refl _) _
                have HMd := Lib.hid ((HM.out.below (Below.refl _ _).drew).below bV)
                refine wpP_value _ rfl rfl (.slice (some ⟨wr.heap.size, 0, none⟩) 1 1) (wr.drew.alloc (.cells #[.int .i64 oo, .slice none 0 0] 55)) ?_ ⟨.inr ⟨?_, ?_⟩, ?_⟩
                · go_simp
                · exact keeps_of_below bV _ _ p0
                · exact keeps_of_below bV _ _ c0
                refine wpP_append _ rfl rfl (.tmp 54) (.tmp 63) 22 rfl (w.heap.size + 1 + 1) 55 i0 (.agg #[.int .i64 0, .slice none 0 0]) 2 32 Tryd.underlying22 HI0.out.1 HI0.out.2.1 HI0.out.2.2.1 HI0.out.2.2.2 rfl (by decide) (.slice (some ⟨g, 0, none⟩) (init.length + 1) vc) (init.length + 1) (rvCells ((init ++ [((qo, its), .slice ia its.length ic)]))) rfl (by have := HMd.out.row; rw [hlen] at this; exact this) ⟨wr.heap.size, 0, none⟩ 1 1 [.int .i64 oo, .slice none 0 0] rfl rfl ?_ ?_ ?_ ?_ ?_ ?_
                · exact new_cells _ [.int .i64 oo, .slice none 0 0] 55 _ rfl
                · intro u hu
                  simp only [List.mem_cons, List.not_mem_nil, or_false] at hu
                  rcases hu with rfl | rfl <;> rfl
                · unfold maxLen; omega
                · omega
                · simp; omega
                intro v1 w1 ho1 hg1 _
                have hb1 : w1.heap[w.heap.size + 1]? = some (.cells #[.slice (some ⟨g, 0, none⟩) (init.length + 1) vc] 24 (0, 0)) := (hg1.block _ (heap_lt HMd.out.pb) (fun e => by have := (HMd.out.row.lt _ e.symm).1; omega)).trans HMd.out.pb
                have hl1 : Below w.heap.size w w1 := HMd.out.lowW.grown hg1 HMd.out.lowW.size (fun j e => by have := (HMd.out.row.lt j e).1; omega)
                have q0 : w1.cell? ⟨w.heap.size + 1, 0, none⟩ = some (.slice (some ⟨g, 0, none⟩) (init.length + 1) vc) := (cell_of_row w1 _ 0 _ _ _ hb1).trans rfl
                have qf : w1.frozen? ⟨w.heap.size + 1, 0, none⟩ = false := frozen_of_row w1 _ 0 _ _ hb1
                obtain ⟨g1, vc1, rfl⟩ := ownsRow_succ ho1
                have HM1 := Lib.hid (HMd.out.addRule (op := oo) (by simp) (by first | (simp; done) | omega) HFO.out (by rw [hlen]; exact ho1) hg1)
                refine ⟨.inr ⟨q0, keeps_of_below hl1 _ _ D0.out⟩, ?_⟩
                refine wpP_light _ rfl rfl _ (fun w' hS => by go_simp; rfl) ?_
                go_simp
                refine wpP_skipH _ rfl rfl (w1.setCell ⟨w.heap.size + 1, 0, none⟩ (.slice (some ⟨g1, 0, none⟩) ((init.length + 1) + 1) vc1)) ?_ ⟨.inl rfl, ?_⟩
                · go_simp
                refine wpP_nil ?_
                obtain ⟨W, hW⟩ : ∃ W, W = w1.setCell ⟨w.heap.size + 1, 0, none⟩ (.slice (some ⟨g1, 0, none⟩) ((init.length + 1) + 1) vc1) := ⟨_, rfl⟩
                rw [← hW] at HM1 ⊢
                clear hW q0 qf hb1 hl1 ho1 hg1 bV HMd p0 pf c0
                obtain ⟨init, its, ia, ic, qo, g, vc, HM, h4, h8⟩ : ∃ (init : List RV) (its : List It) (ia : Option Addr) (ic : Nat) (qo : Int) (g vc : Nat), Hid (MS (w.alloc (.cells #[.slice none 0 0] 24)) (w.heap.size + 1) (init ++ [((qo, its), .slice ia its.length ic)]) (.slice (some ⟨g, 0, none⟩) (init.length + 1) vc) W) ∧ its.length < 4 ∧ init.length + 1 ≤ 8 := ⟨(init ++ [((qo, its), .slice ia its.length ic)]), [], none, 0, oo, g1, vc1, (by rw [hlen]; exact HM1), by simp, by first | (simp; done) | omega⟩
                clear HM1
                have p0 : W.cell? ⟨w.heap.size + 1, 0, none⟩ = some (.slice (some ⟨g, 0, none⟩) (init.length + 1) vc) := (cell_of_row W _ 0 _ _ _ HM.out.pb).trans rfl
                have c3 := keeps_of_below HM.out.lowW _ _ D3.out
                obtain ⟨m, hq3, hm⟩ : ∃ m : Nat, (∀ w' : World, Calls Tryd.prog 29 #[.int .i64 z3, .int .i64 3] w' fun e w'' => e = .returned (.int .i64 (m : Int)) ∧ w' = w'') ∧ m < 3 := by
                  have h := pick_lt z3 3 (by decide)
                  refine ⟨(pickZ z3 3).toNat, fun w' => ?_, by omega⟩
                  rw [Int.toNat_of_nonneg h.1]; exact f29_any _ 3 w' HZ3.out (by decide) (by decide)
                obtain ⟨l2, hq2, hl2⟩ : ∃ m : Nat, (∀ w' : World, Calls Tryd.prog 29 #[.int .i64 z2, .int .i64 4] w' fun e w'' => e = .returned (.int .i64 (m : Int)) ∧ w' = w'') ∧ m < 4 := by
                  have h := pick_lt z2 4 (by decide)
                  refine ⟨(pickZ z2 4).toNat, fun w' => ?_, by omega⟩
                  rw [Int.toNat_of_nonneg h.1]; exact f29_any _ 4 w' HZ2.out (by decide) (by decide)
                obtain ⟨o1, hq1, ho1⟩ : ∃ m : Nat, (∀ w' : World, Calls Tryd.prog 29 #[.int .i64 z1, .int .i64 4] w' fun e w'' => e = .returned (.int .i64 (m : Int)) ∧ w' = w'') ∧ m < 4 := by
                  have h := pick_lt z1 4 (by decide)
                  refine ⟨(pickZ z1 4).toNat, fun w' => ?_, by omega⟩
                  rw [Int.toNat_of_nonneg h.1]; exact f29_any _ 4 w' HZ1.out (by decide) (by decide)
                have HQ1 := Lib.hid hq1
                have HQ2 := Lib.hid hq2
                have HQ3 := Lib.hid hq3
                clear hq1 hq2 hq3
                go_wp2_with (go_at_call 29; refine (HQ3.out _).mono ?_; rintro e w1 ⟨rfl, rfl⟩)
                have c1 := keeps_of_below HM.out.lowW _ _ D1.out
                have c2 := keeps_of_below HM.out.lowW _ _ D2.out
                refine wp_region_ordQ 17 [(0, true), (1, true), (2, true), (3, true), (4, true), (5, true), (6, true), (7, true), (8, true), (9, true), (10, true), (11, true), (12, true), (13, true), (14, true), (15, true), (16, false), (17, false)] (fun w' => w'.cell? ⟨xb, xo + k * 4 + 1, none⟩ = some (.int .i64 z1) ∧ w'.cell? ⟨xb, xo + k * 4 + 2, none⟩ = some (.int .i64 z2))
                  (by kernel_rfl) (by kernel_rfl) (by kernel_rfl) rfl (by kernel_rfl) (fun _ _ d _ _ h => by cases d <;> exact h) ⟨c1, c2⟩ ?_
                refine wpP_light _ rfl rfl _ (fun w' hS => by go_simp; rfl) ?_
                refine wpP_light _ rfl rfl _ (fun w' hS => by go_simp; rfl) ?_
                refine wpP_light _ rfl rfl _ (fun w' hS => by go_simp; rfl) ?_
                go_simp
                refine wpP_light _ rfl rfl _ (fun w' hS => by go_simp; rfl) ?_
                refine wpP_light _ rfl rfl _ (fun w' hS => by obtain ⟨s1, s2⟩ := hS; go_simp; rfl) ?_
                go_simp
                refine wpP_quiet _ rfl rfl _ 29 #[.int .i64 z1, .int .i64 4] (fun w' hS => by go_simp) HQ1.out ?_
                refine wpP_light _ rfl rfl _ (fun w' hS => by go_simp; rfl) ?_
                refine wpP_light _ rfl rfl _ (fun w' hS => by go_simp; rfl) ?_
                refine wpP_light _ rfl rfl _ (fun w' hS => by go_simp; rfl) ?_
                go_simp
                refine wpP_light _ rfl rfl _ (fun w' hS => by go_simp; rfl) ?_
                refine wpP_light _ rfl rfl _ (fun w' hS => by go_simp; rfl) ?_
                refine wpP_light _ rfl rfl _ (fun w' hS => by obtain ⟨s1, s2⟩ := hS; go_simp; rfl) ?_
                go_simp
                refine wpP_quiet _ rfl rfl _ 29 #[.int .i64 z2, .int .i64 4] (fun w' hS => by go_simp) HQ2.out ?_
                refine wpP_light _ rfl rfl _ (fun w' hS => by go_simp; rfl) ?_
                refine wpP_light _ rfl rfl _ (fun w' hS => by go_simp; rfl) ?_
                refine wpP_light _ rfl rfl _ (fun w' hS => by go_simp; rfl) ?_
                go_simp
                have bV : ∀ o : Obj, Below W.heap.size W (W.drew.alloc o) := fun o => (Below.refl _ W).drew.alloc (Nat.le_refl _) _
                refine wpP_value _ rfl rfl (.pointer (some ⟨W.heap.size, 0, none⟩)) (W.drew.alloc (.cells #[.int .i64 0, .int .i64 0, .int .i64 0] 59)) ?_ ⟨.inr ⟨keeps_of_below (bV _) _ _ c1, keeps_of_below (bV _) _ _ c2⟩, ?_⟩
                · go_simp
                go_simp
                refine wpP_skipH _ rfl rfl (W.drew.alloc (.cells #[.int .i64 o1, .int .i64 (min (1 + m) l2), .int .i64 (1 + m)] 59)) ?_ ⟨.inl rfl, ?_⟩
                · go_simp
                refine wpP_nil ?_
                have hM2 := HM.out.below (bV (.cells #[.int .i64 o1, .int .i64 (min (1 + m) l2), .int .i64 (1 + m)] 59))
                have hY2 : (W.drew.alloc (.cells #[.int .i64 o1, .int .i64 (min (1 + m) l2), .int .i64 (1 + m)] 59)).heap[W.heap.size]? = some (.cells #[.int .i64 o1, .int .i64 (min (1 + m) l2), .int .i64 (1 + m)] 59 (0, 0)) := World.alloc_heap_new W.drew _
                have hiY : ∀ j, (Value.slice ia its.length ic).ownBlock = some j → j < W.heap.size := fun j hj => ((HM.out.its ((qo, its), .slice ia its.length ic) (by simp)).lt j hj).2
                obtain ⟨V, hV⟩ : ∃ V, V = W.drew.alloc (.cells #[.int .i64 o1, .int .i64 (min (1 + m) l2), .int .i64 (1 + m)] 59) := ⟨_, rfl⟩
                rw [← hV] at hM2 hY2 ⊢
                clear hV bV c1 c2 c3 p0 HM
                obtain ⟨Y, hY⟩ : ∃ Y, Y = W.heap.size := ⟨_, rfl⟩
                rw [← hY] at hY2 hiY ⊢
                have p0 : V.cell? ⟨w.heap.size + 1, 0, none⟩ = some (.slice (some ⟨g, 0, none⟩) (init.length + 1) vc) := (cell_of_row V _ 0 _ _ _ hM2.pb).trans rfl
                have HM2 := Lib.hid hM2
                have HIY := Lib.hid hiY
                have HY2 := Lib.hid hY2
                clear hY hM2 hiY hY2
                go_wp2_with fail
                obtain ⟨i0, HI0⟩ := part59
                have hrow : V.ownsRow (w.heap.size + 1 + 1) 55 2 (.slice (some ⟨g, 0, none⟩) (init.length + 1) vc) (init.length + 1) (rvCells (init ++ [((qo, its), .slice ia its.length ic)])) := by
                  have := HM2.out.row
                  rwa [show (init ++ [((qo, its), Value.slice ia its.length ic)]).length = init.length + 1 by simp] at this
                have e1 : V.cell? ⟨g, init.length * 2 + 1, none⟩ = some (.slice ia its.length ic) := by
                  have := hrow.cells (g := g) rfl _ _ (rvCells_last init _)
                  rw [Addr.add_mid, Nat.zero_add] at this
                  exact this
                have y0 : V.cell? ⟨Y, 0, none⟩ = some (.int .i64 o1) := (cell_of_row V _ 0 _ _ _ HY2.out).trans rfl
                have y1 : V.cell? ⟨Y, 1, none⟩ = some (.int .i64 (min (1 + m) l2)) := (cell_of_row V _ 1 _ _ _ HY2.out).trans rfl
                have y2 : V.cell? ⟨Y, 2, none⟩ = some (.int .i64 (1 + m)) := (cell_of_row V _ 2 _ _ _ HY2.out).trans rfl
                have hgY : g ≠ Y := by
                  rintro rfl
                  rcases hrow.2 with ⟨e0, _⟩ | ⟨g', cap', cur, e0, _, hg', _⟩
                  · cases e0
                  · injection e0 with e0; injection e0 with e0; injection e0 with e0; subst e0
                    have := HY2.out.symm.trans hg'
                    simp at this
                have HROW := Lib.hid hrow
                have hlt1 : (init.length : Int) < (init.length : Int) + 1 := by omega
                have HGY := Lib.hid hgY
                clear hrow hgY
                refine wp_region_ordQ 14 [(0, true), (1, true), (2, true), (3, true), (4, true), (5, true), (6, true), (7, true), (8, true), (9, true), (10, false), (11, false), (12, true), (13, true), (14, false)] (fun w' => w'.cell? ⟨w.heap.size + 1, 0, none⟩ = some (.slice (some ⟨g, 0, none⟩) (init.length + 1) vc) ∧ w'.cell? ⟨g, init.length * 2 + 1, none⟩ = some (.slice ia its.length ic) ∧ w'.cell? ⟨Y, 0, none⟩ = some (.int .i64 o1) ∧ w'.cell? ⟨Y, 1, none⟩ = some (.int .i64 (min (1 + m) l2)) ∧ w'.cell? ⟨Y, 2, none⟩ = some (.int .i64 (1 + m)))
                  (by kernel_rfl) (by kernel_rfl) (by kernel_rfl) rfl (by kernel_rfl) (fun _ _ d _ _ h => by cases d <;> exact h) ⟨p0, e1, y0, y1, y2⟩ ?_
                refine wpP_light _ rfl rfl _ (fun w' hS => by go_simp; rfl) ?_
                refine wpP_light _ rfl rfl _ (fun w' hS => by obtain ⟨s1, s2, s3, s4, s5⟩ := hS; go_simp; rfl) ?_
                refine wpP_light _ rfl rfl _ (fun w' hS => by go_simp; rfl) ?_
                go_simp
                refine wpP_light _ rfl rfl _ (fun w' hS => by go_simp; rfl) ?_
                refine wpP_light _ rfl rfl _ (fun w' hS => by obtain ⟨s1, s2, s3, s4, s5⟩ := hS; go_simp; rfl) ?_
                refine wpP_light _ rfl rfl _ (fun w' hS => by go_simp; rfl) ?_
                go_simp
                refine wpP_light _ rfl rfl _ (fun w' hS => by go_simp; rfl) ?_
                refine wpP_light _ rfl rfl _ (fun w' hS => by go_simp; rfl) ?_
                refine wpP_light _ rfl rfl _ (fun w' hS => by obtain ⟨s1, s2, s3, s4, s5⟩ := hS; go_simp; rfl) ?_
                go_simp
                refine wpP_light _ rfl rfl _ (fun w' hS => by obtain ⟨s1, s2, s3, s4, s5⟩ := hS; go_simp; rfl) ?_
                go_simp
                have bX : Below V.heap.size V (V.drew.alloc (.cells #[.int .i64 o1, .int .i64 (min (1 + m) l2), .int .i64 (1 + m)] 59)) := (Below.refl _ V).drew.alloc (Nat.le_refl _) _
                have HMx := Lib.hid (HM2.out.below bX)
                refine wpP_value _ rfl rfl (.slice (some ⟨V.heap.size, 0, none⟩) 1 1) (V.drew.alloc (.cells #[.int .i64 o1, .int .i64 (min (1 + m) l2), .int .i64 (1 + m)] 59)) ?_ ⟨.inr ⟨keeps_of_below bX _ _ p0, keeps_of_below bX _ _ e1, keeps_of_below bX _ _ y0, keeps_of_below bX _ _ y1, keeps_of_below bX _ _ y2⟩, ?_⟩
                · go_simp
                have hox : (V.drew.alloc (.cells #[.int .i64 o1, .int .i64 (min (1 + m) l2), .int .i64 (1 + m)] 59)).ownsRow (w.heap.size + 1 + 1) 59 3 (.slice ia its.length ic) its.length (itCells its) := HMx.out.its ((qo, its), .slice ia its.length ic) (by simp)
                have HOX := Lib.hid hox
                clear hox
                refine wpP_append _ rfl rfl (.tmp 101) (.tmp 103) 53 rfl (w.heap.size + 1 + 1) 59 i0 (.agg #[.int .i64 0, .int .i64 0, .int .i64 0]) 3 24 Tryd.underlying53 HI0.out.1 HI0.out.2.1 HI0.out.2.2.1 HI0.out.2.2.2 rfl (by decide) (.slice ia its.length ic) its.length (itCells its) rfl HOX.out ⟨V.heap.size, 0, none⟩ 1 1 [.int .i64 o1, .int .i64 (min (1 + m) l2), .int .i64 (1 + m)] rfl rfl ?_ ?_ ?_ ?_ ?_ ?_
                · exact new_cells _ [.int .i64 o1, .int .i64 (min (1 + m) l2), .int .i64 (1 + m)] 59 _ rfl
                · intro u hu
                  simp only [List.mem_cons, List.not_mem_nil, or_false] at hu
                  rcases hu with rfl | rfl | rfl <;> rfl
                · unfold maxLen; omega
                · omega
                · have := HMx.out.lowW.size; have := heap_lt HMx.out.pb; omega
                intro v1 w1 ho1 hg1 hat
                have far : ∀ (a : Addr) (u : Value), a.block < V.heap.size → (Value.slice ia its.length ic).ownBlock ≠ some a.block → V.cell? a = some u → w1.cell? a = some u := fun a u _ hne hc => by
                  exact hg1.cell (keeps_of_below bX _ _ hc) (fun e => hne e.symm)
                have nb : (Value.slice ia its.length ic).ownBlock ≠ some (w.heap.size + 1) := fun e => by have := (HOX.out.lt _ e).1; omega
                have ng : (Value.slice ia its.length ic).ownBlock ≠ some g := fun e => by
                  have := own_types HOX.out HMx.out.row (by decide) g e
                  simp [Value.ownBlock] at this
                have nY : (Value.slice ia its.length ic).ownBlock ≠ some Y := fun e => by have := HIY.out _ e; omega
                have hlY : Y < V.heap.size := heap_lt HY2.out
                have hlg : g < V.heap.size := (HROW.out.lt g rfl).2
                have hlb : w.heap.size + 1 < V.heap.size := heap_lt HM2.out.pb
                have s1 := far ⟨w.heap.size + 1, 0, none⟩ _ hlb nb p0
                have s2 := far ⟨g, init.length * 2 + 1, none⟩ _ hlg ng e1
                have s3 := far ⟨Y, 0, none⟩ _ hlY nY y0
                have s4 := far ⟨Y, 1, none⟩ _ hlY nY y1
                have s5 := far ⟨Y, 2, none⟩ _ hlY nY y2
                have sf : w1.frozen? ⟨g, init.length * 2 + 1, none⟩ = false := by
                  have hr1 := grown_kept HROW.out (grown_trans (grownBel bX _) hg1) (fun j hj => by
                    have := own_types HROW.out (HM2.out.its ((qo, its), .slice ia its.length ic) (by simp)) (by decide) j hj
                    exact this)
                  rcases hr1.2 with ⟨e0, _⟩ | ⟨g', cap', cur, e0, _, hg', _⟩
                  · cases e0
                  · injection e0 with e0; injection e0 with e0; injection e0 with e0; subst e0
                    exact frozen_of_row w1 _ _ _ _ hg'
                have hx : mItem ((o1 : Int), min (1 + (m : Int)) l2, 1 + (m : Int)) := by
                  unfold mItem Four; simp only; omega
                have HM4 := Lib.hid (HMx.out.addItem (x := ((o1 : Int), min (1 + (m : Int)) l2, 1 + (m : Int))) (by simp) h4 hx ho1 hg1 hat)
                obtain ⟨a1, c1', rfl⟩ := own_slice ho1
                refine ⟨.inr ⟨s1, s2, s3, s4, s5⟩, ?_⟩
                clear far nb ng nY s3 s4 s5 ho1 hg1 hat
                refine wpP_light _ rfl rfl _ (fun w' hS => by go_simp; rfl) ?_
                refine wpP_light _ rfl rfl _ (fun w' hS => by go_simp; rfl) ?_
                go_simp
                refine wpP_skipH _ rfl rfl (w1.setCell ⟨g, init.length * 2 + 1, none⟩ (.slice a1 (its.length + 1) c1')) ?_ ⟨.inl rfl, ?_⟩
                · go_simp
                refine wpP_nil ?_
                obtain ⟨U, hU⟩ : ∃ U, U = w1.setCell ⟨g, init.length * 2 + 1, none⟩ (.slice a1 (its.length + 1) c1') := ⟨_, rfl⟩
                rw [← hU] at HM4 ⊢
                clear hU s1 s2 sf p0 e1 y0 y1 y2 HMx HM2 HOX HROW bX
                go_wp2_with fail
                exact ⟨⟨k + 1, _, _, by go_num, by omega, by omega, by simp, HM4.out⟩, by simp only [intOf]; omega⟩

              · have d4 : ((its.length : Int) == 4) = false := by simp; omega
                clear p0
                have h4 : its.length < 4 := by omega
                obtain ⟨W, rfl⟩ : ∃ W : World, W = wr := ⟨_, rfl⟩
                have p0 : W.cell? ⟨w.heap.size + 1, 0, none⟩ = some (.slice (some ⟨g, 0, none⟩) (init.length + 1) vc) := (cell_of_row W _ 0 _ _ _ HM.out.pb).trans rfl
                have c3 := keeps_of_below HM.out.lowW _ _ D3.out
                obtain ⟨m, hq3, hm⟩ : ∃ m : Nat, (∀ w' : World, Calls Tryd.prog 29 #[.int .i64 z3, .int .i64 3] w' fun e w'' => e = .returned (.int .i64 (m : Int)) ∧ w' = w'') ∧ m < 3 := by
                  have h := pick_lt z3 3 (by decide)
                  refine ⟨(pickZ z3 3).toNat, fun w' => ?_, by omega⟩
                  rw [Int.toNat_of_nonneg h.1]; exact f29_any _ 3 w' HZ3.out (by decide) (by decide)
                obtain ⟨l2, hq2, hl2⟩ : ∃ m : Nat, (∀ w' : World, Calls Tryd.prog 29 #[.int .i64 z2, .int .i64 4] w' fun e w'' => e = .returned (.int .i64 (m : Int)) ∧ w' = w'') ∧ m < 4 := by
                  have h := pick_lt z2 4 (by decide)
                  refine ⟨(pickZ z2 4).toNat, fun w' => ?_, by omega⟩
                  rw [Int.toNat_of_nonneg h.1]; exact f29_any _ 4 w' HZ2.out (by decide) (by decide)
                obtain ⟨o1, hq1, ho1⟩ : ∃ m : Nat, (∀ w' : World, Calls Tryd.prog 29 #[.int .i64 z1, .int .i64 4] w' fun e w'' => e = .returned (.int .i64 (m : Int)) ∧ w' = w'') ∧ m < 4 := by
                  have h := pick_lt z1 4 (by decide)
                  refine ⟨(pickZ z1 4).toNat, fun w' => ?_, by omega⟩
                  rw [Int.toNat_of_nonneg h.1]; exact f29_any _ 4 w' HZ1.out (by decide) (by decide)
                have HQ1 := Lib.hid hq1
                have HQ2 := Lib.hid hq2
                have HQ3 := Lib.hid hq3
                clear hq1 hq2 hq3
                go_wp2_with (first | (go_at_call 29; with_reducible refine (HQ3.out _).mono ?_; rintro e w1 ⟨rfl, rfl⟩) | (go_at_call 29; refine (f29_any _ 5 _ HZ0.out (by decide) (by decide)).mono ?_; rintro e w1 ⟨rfl, rfl⟩))
                have c1 := keeps_of_below HM.out.lowW _ _ D1.out
                have c2 := keeps_of_below HM.out.lowW _ _ D2.out
                refine wp_region_ordQ 17 [(0, true), (1, true), (2, true), (3, true), (4, true), (5, true), (6, true), (7, true), (8, true), (9, true), (10, true), (11, true), (12, true), (13, true), (14, true), (15, true), (16, false), (17, false)] (fun w' => w'.cell? ⟨xb, xo + k * 4 + 1, none⟩ = some (.int .i64 z1) ∧ w'.cell? ⟨xb, xo + k * 4 + 2, none⟩ = some (.int .i64 z2))
                  (by kernel_rfl) (by kernel_rfl) (by kernel_rfl) rfl (by kernel_rfl) (fun _ _ d _ _ h => by cases d <;> exact h) ⟨c1, c2⟩ ?_
                refine wpP_light _ rfl rfl _ (fun w' hS => by go_simp; rfl) ?_
                refine wpP_light _ rfl rfl _ (fun w' hS => by go_simp; rfl) ?_
                refine wpP_light _ rfl rfl _ (fun w' hS => by go_simp; rfl) ?_
                go_simp
                refine wpP_light _ rfl rfl _ (fun w' hS => by go_simp; rfl) ?_
                refine wpP_light _ rfl rfl _ (fun w' hS => by obtain ⟨s1, s2⟩ := hS; go_simp; rfl) ?_
                go_simp
                refine wpP_quiet _ rfl rfl _ 29 #[.int .i64 z1, .int .i64 4] (fun w' hS => by go_simp) HQ1.out ?_
                refine wpP_light _ rfl rfl _ (fun w' hS => by go_simp; rfl) ?_
                refine wpP_light _ rfl rfl _ (fun w' hS => by go_simp; rfl) ?_
                refine wpP_light _ rfl rfl _ (fun w' hS => by go_simp; rfl) ?_
                go_simp
                refine wpP_light _ rfl rfl _ (fun w' hS => by go_simp; rfl) ?_
                refine wpP_light _ rfl rfl _ (fun w' hS => by go_simp; rfl) ?_
                refine wpP_light _ rfl rfl _ (fun w' hS => by obtain ⟨s1, s2⟩ := hS; go_simp; rfl) ?_
                go_simp
                refine wpP_quiet _ rfl rfl _ 29 #[.int .i64 z2, .int .i64 4] (fun w' hS => by go_simp) HQ2.out ?_
                refine wpP_light _ rfl rfl _ (fun w' hS => by go_simp; rfl) ?_
                refine wpP_light _ rfl rfl _ (fun w' hS => by go_simp; rfl) ?_
                refine wpP_light _ rfl rfl _ (fun w' hS => by go_simp; rfl) ?_
                go_simp
                have bV : ∀ o : Obj, Below W.heap.size W (W.drew.alloc o) := fun o => (Below.refl _ W).drew.alloc (Nat.le_refl _) _
                refine wpP_value _ rfl rfl (.pointer (some ⟨W.heap.size, 0, none⟩)) (W.drew.alloc (.cells #[.int .i64 0, .int .i64 0, .int .i64 0] 59)) ?_ ⟨.inr ⟨keeps_of_below (bV _) _ _ c1, keeps_of_below (bV _) _ _ c2⟩, ?_⟩
                · go_simp
                go_simp
                refine wpP_skipH _ rfl rfl (W.drew.alloc (.cells #[.int .i64 o1, .int .i64 (min (1 + m) l2), .int .i64 (1 + m)] 59)) ?_ ⟨.inl rfl, ?_⟩
                · go_simp
                refine wpP_nil ?_
                have hM2 := HM.out.below (bV (.cells #[.int .i64 o1, .int .i64 (min (1 + m) l2), .int .i64 (1 + m)] 59))
                have hY2 : (W.drew.alloc (.cells #[.int .i64 o1, .int .i64 (min (1 + m) l2), .int .i64 (1 + m)] 59)).heap[W.heap.size]? = some (.cells #[.int .i64 o1, .int .i64 (min (1 + m) l2), .int .i64 (1 + m)] 59 (0, 0)) := World.alloc_heap_new W.drew _
                have hiY : ∀ j, (Value.slice ia its.length ic).ownBlock = some j → j < W.heap.size := fun j hj => ((HM.out.its ((qo, its), .slice ia its.length ic) (by simp)).lt j hj).2
                obtain ⟨V, hV⟩ : ∃ V, V = W.drew.alloc (.cells #[.int .i64 o1, .int .i64 (min (1 + m) l2), .int .i64 (1 + m)] 59) := ⟨_, rfl⟩
                rw [← hV] at hM2 hY2 ⊢
                clear hV bV c1 c2 c3 p0 HM
                obtain ⟨Y, hY⟩ : ∃ Y, Y = W.heap.size := ⟨_, rfl⟩
                rw [← hY] at hY2 hiY ⊢
                have p0 : V.cell? ⟨w.heap.size + 1, 0, none⟩ = some (.slice (some ⟨g, 0, none⟩) (init.length + 1) vc) := (cell_of_row V _ 0 _ _ _ hM2.pb).trans rfl
                have HM2 := Lib.hid hM2
                have HIY := Lib.hid hiY
                have HY2 := Lib.hid hY2
                clear hY hM2 hiY hY2
                go_wp2_with fail
                obtain ⟨i0, HI0⟩ := part59
                have hrow : V.ownsRow (w.heap.size + 1 + 1) 55 2 (.slice (some ⟨g, 0, none⟩) (init.length + 1) vc) (init.length + 1) (rvCells (init ++ [((qo, its), .slice ia its.length ic)])) := by
                  have := HM2.out.row
                  rwa [show (init ++ [((qo, its), Value.slice ia its.length ic)]).length = init.length + 1 by simp] at this
                have e1 : V.cell? ⟨g, init.length * 2 + 1, none⟩ = some (.slice ia its.length ic) := by
                  have := hrow.cells (g := g) rfl _ _ (rvCells_last init _)
                  rw [Addr.add_mid, Nat.zero_add] at this
                  exact this
                have y0 : V.cell? ⟨Y, 0, none⟩ = some (.int .i64 o1) := (cell_of_row V _ 0 _ _ _ HY2.out).trans rfl
                have y1 : V.cell? ⟨Y, 1, none⟩ = some (.int .i64 (min (1 + m) l2)) := (cell_of_row V _ 1 _ _ _ HY2.out).trans rfl
                have y2 : V.cell? ⟨Y, 2, none⟩ = some (.int .i64 (1 + m)) := (cell_of_row V _ 2 _ _ _ HY2.out).trans rfl
                have hgY : g ≠ Y := by
                  rintro rfl
                  rcases hrow.2 with ⟨e0, _⟩ | ⟨g', cap', cur, e0, _, hg', _⟩
                  · cases e0
                  · injection e0 with e0; injection e0 with e0; injection e0 with e0; subst e0
                    have := HY2.out.symm.trans hg'
                    simp at this
                have HROW := Lib.hid hrow
                have hlt1 : (init.length : Int) < (init.length : Int) + 1 := by omega
                have HGY := Lib.hid hgY
                clear hrow hgY
                refine wp_region_ordQ 14 [(0, true), (1, true), (2, true), (3, true), (4, true), (5, true), (6, true), (7, true), (8, true), (9, true), (10, false), (11, false), (12, true), (13, true), (14, false)] (fun w' => w'.cell? ⟨w.heap.size + 1, 0, none⟩ = some (.slice (some ⟨g, 0, none⟩) (init.length + 1) vc) ∧ w'.cell? ⟨g, init.length * 2 + 1, none⟩ = some (.slice ia its.length ic) ∧ w'.cell? ⟨Y, 0, none⟩ = some (.int .i64 o1) ∧ w'.cell? ⟨Y, 1, none⟩ = some (.int .i64 (min (1 + m) l2)) ∧ w'.cell? ⟨Y, 2, none⟩ = some (.int .i64 (1 + m)))
                  (by kernel_rfl) (by kernel_rfl) (by kernel_rfl) rfl (by kernel_rfl) (fun _ _ d _ _ h => by cases d <;> exact h) ⟨p0, e1, y0, y1, y2⟩ ?_
                refine wpP_light _ rfl rfl _ (fun w' hS => by go_simp; rfl) ?_
                refine wpP_light _ rfl rfl _ (fun w' hS => by obtain ⟨s1, s2, s3, s4, s5⟩ := hS; go_simp; rfl) ?_
                refine wpP_light _ rfl rfl _ (fun w' hS => by go_simp; rfl) ?_
                go_simp
                refine wpP_light _ rfl rfl _ (fun w' hS => by go_simp; rfl) ?_
                refine wpP_light _ rfl rfl _ (fun w' hS => by obtain ⟨s1, s2, s3, s4, s5⟩ := hS; go_simp; rfl) ?_
                refine wpP_light _ rfl rfl _ (fun w' hS => by go_simp; rfl) ?_
                go_simp
                refine wpP_light _ rfl rfl _ (fun w' hS => by go_simp; rfl) ?_
                refine wpP_light _ rfl rfl _ (fun w' hS => by go_simp; rfl) ?_
                refine wpP_light _ rfl rfl _ (fun w' hS => by obtain ⟨s1, s2, s3, s4, s5⟩ := hS; go_simp; rfl) ?_
                go_simp
                refine wpP_light _ rfl rfl _ (fun w' hS => by obtain ⟨s1, s2, s3, s4, s5⟩ := hS; go_simp; rfl) ?_
                go_simp
                have bX : Below V.heap.size V (V.drew.alloc (.cells #[.int .i64 o1, .int .i64 (min (1 + m) l2), .int .i64 (1 + m)] 59)) := (Below.refl _ V).drew.alloc (Nat.le_refl _) _
                have HMx := Lib.hid (HM2.out.below bX)
                refine wpP_value _ rfl rfl (.slice (some ⟨V.heap.size, 0, none⟩) 1 1) (V.drew.alloc (.cells #[.int .i64 o1, .int .i64 (min (1 + m) l2), .int .i64 (1 + m)] 59)) ?_ ⟨.inr ⟨keeps_of_below bX _ _ p0, keeps_of_below bX _ _ e1, keeps_of_below bX _ _ y0, keeps_of_below bX _ _ y1, keeps_of_below bX _ _ y2⟩, ?_⟩
                · go_simp
                have hox : (V.drew.alloc (.cells #[.int .i64 o1, .int .i64 (min (1 + m) l2), .int .i64 (1 + m)] 59)).ownsRow (w.heap.size + 1 + 1) 59 3 (.slice ia its.length ic) its.length (itCells its) := HMx.out.its ((qo, its), .slice ia its.length ic) (by simp)
                have HOX := Lib.hid hox
                clear hox
                refine wpP_append _ rfl rfl (.tmp 101) (.tmp 103) 53 rfl (w.heap.size + 1 + 1) 59 i0 (.agg #[.int .i64 0, .int .i64 0, .int .i64 0]) 3 24 Tryd.underlying53 HI0.out.1 HI0.out.2.1 HI0.out.2.2.1 HI0.out.2.2.2 rfl (by decide) (.slice ia its.length ic) its.length (itCells its) rfl HOX.out ⟨V.heap.size, 0, none⟩ 1 1 [.int .i64 o1, .int .i64 (min (1 + m) l2), .int .i64 (1 + m)] rfl rfl ?_ ?_ ?_ ?_ ?_ ?_
                · exact new_cells _ [.int .i64 o1, .int .i64 (min (1 + m) l2), .int .i64 (1 + m)] 59 _ rfl
                · intro u hu
                  simp only [List.mem_cons, List.not_mem_nil, or_false] at hu
                  rcases hu with rfl | rfl | rfl <;> rfl
                · unfold maxLen; omega
                · omega
                · have := HMx.out.lowW.size; have := heap_lt HMx.out.pb; omega
                intro v1 w1 ho1 hg1 hat
                have far : ∀ (a : Addr) (u : Value), a.block < V.heap.size → (Value.slice ia its.length ic).ownBlock ≠ some a.block → V.cell? a = some u → w1.cell? a = some u := fun a u _ hne hc => by
                  exact hg1.cell (keeps_of_below bX _ _ hc) (fun e => hne e.symm)
                have nb : (Value.slice ia its.length ic).ownBlock ≠ some (w.heap.size + 1) := fun e => by have := (HOX.out.lt _ e).1; omega
                have ng : (Value.slice ia its.length ic).ownBlock ≠ some g := fun e => by
                  have := own_types HOX.out HMx.out.row (by decide) g e
                  simp [Value.ownBlock] at this
                have nY : (Value.slice ia its.length ic).ownBlock ≠ some Y := fun e => by have := HIY.out _ e; omega
                have hlY : Y < V.heap.size := heap_lt HY2.out
                have hlg : g < V.heap.size := (HROW.out.lt g rfl).2
                have hlb : w.heap.size + 1 < V.heap.size := heap_lt HM2.out.pb
                have s1 := far ⟨w.heap.size + 1, 0, none⟩ _ hlb nb p0
                have s2 := far ⟨g, init.length * 2 + 1, none⟩ _ hlg ng e1
                have s3 := far ⟨Y, 0, none⟩ _ hlY nY y0
                have s4 := far ⟨Y, 1, none⟩ _ hlY nY y1
                have s5 := far ⟨Y, 2, none⟩ _ hlY nY y2
                have sf : w1.frozen? ⟨g, init.length * 2 + 1, none⟩ = false := by
                  have hr1 := grown_kept HROW.out (grown_trans (grownBel bX _) hg1) (fun j hj => by
                    have := own_types HROW.out (HM2.out.its ((qo, its), .slice ia its.length ic) (by simp)) (by decide) j hj
                    exact this)
                  rcases hr1.2 with ⟨e0, _⟩ | ⟨g', cap', cur, e0, _, hg', _⟩
                  · cases e0
                  · injection e0 with e0; injection e0 with e0; injection e0 with e0; subst e0
                    exact frozen_of_row w1 _ _ _ _ hg'
                have hx : mItem ((o1 : Int), min (1 + (m : Int)) l2, 1 + (m : Int)) := by
                  unfold mItem Four; simp only; omega
                have HM4 := Lib.hid (HMx.out.addItem (x := ((o1 : Int), min (1 + (m : Int)) l2, 1 + (m : Int))) (by simp) h4 hx ho1 hg1 hat)
                obtain ⟨a1, c1', rfl⟩ := own_slice ho1
                refine ⟨.inr ⟨s1, s2, s3, s4, s5⟩, ?_⟩
                clear far nb ng nY s3 s4 s5 ho1 hg1 hat
                refine wpP_light _ rfl rfl _ (fun w' hS => by go_simp; rfl) ?_
                refine wpP_light _ rfl rfl _ (fun w' hS => by go_simp; rfl) ?_
                go_simp
                refine wpP_skipH _ rfl rfl (w1.setCell ⟨g, init.length * 2 + 1, none⟩ (.slice a1 (its.length + 1) c1')) ?_ ⟨.inl rfl, ?_⟩
                · go_simp
                refine wpP_nil ?_
                obtain ⟨U, hU⟩ : ∃ U, U = w1.setCell ⟨g, init.length * 2 + 1, none⟩ (.slice a1 (its.length + 1) c1') := ⟨_, rfl⟩
                rw [← hU] at HM4 ⊢
                clear hU s1 s2 sf p0 e1 y0 y1 y2 HMx HM2 HOX HROW bX
                go_wp2_with fail
                exact ⟨⟨k + 1, _, _, by go_num, by omega, by omega, by simp, HM4.out⟩, by simp only [intOf]; omega⟩

            · go_wp2_with (go_at_call 29; refine (f29_any _ 5 _ HZ0.out (by decide) (by decide)).mono ?_; rintro e w1 ⟨rfl, rfl⟩)
              obtain ⟨i0, HI0⟩ := part55
              obtain ⟨oo, hoo⟩ : ∃ oo, oo = pickZ (IntKind.i64.wrap (z0.tdiv 5)) 4 := ⟨_, rfl⟩
              have hfo : Four oo := by have := pick_lt (IntKind.i64.wrap (z0.tdiv 5)) 4 (by decide); rw [hoo]; exact this
              have hq29 : ∀ w' : World, Calls Tryd.prog 29 #[.int .i64 (IntKind.i64.wrap (z0.tdiv 5)), .int .i64 4] w' fun e w'' => e = .returned (.int .i64 oo) ∧ w' = w'' := fun w' => by rw [hoo]; exact f29_any _ 4 w' (wrap_I64 _) (by decide) (by decide)
              have HQ29 := Lib.hid hq29
              have HFO := Lib.hid hfo
              clear hoo hfo hq29
              refine wp_region_ordQ 13 [(0, true), (1, true), (2, true), (3, true), (4, true), (5, true), (6, true), (7, true), (8, true), (9, true), (10, false), (11, false), (12, true), (13, false)] (fun w' => w'.cell? ⟨w.heap.size + 1, 0, none⟩ = some (.slice (some ⟨g, 0, none⟩) (init.length + 1) vc) ∧ w'.cell? ⟨xb, xo + k * 4, none⟩ = some (.int .i64 z0))
                (by kernel_rfl) (by kernel_rfl) (by kernel_rfl) rfl (by kernel_rfl) (fun _ _ d _ _ h => by cases d <;> exact h) ⟨p0, c0⟩ ?_
              refine wpP_light _ rfl rfl _ (fun w' hS => by go_simp; rfl) ?_
              refine wpP_light _ rfl rfl _ (fun w' hS => by obtain ⟨s1, s2⟩ := hS; go_simp; rfl) ?_
              refine wpP_light _ rfl rfl _ (fun w' hS => by go_simp; rfl) ?_
              refine wpP_light _ rfl rfl _ (fun w' hS => by go_simp; rfl) ?_
              go_simp
              refine wpP_light _ rfl rfl _ (fun w' hS => by go_simp; rfl) ?_
              refine wpP_light _ rfl rfl _ (fun w' hS => by go_simp; rfl) ?_
              refine wpP_light _ rfl rfl _ (fun w' hS => by obtain ⟨s1, s2⟩ := hS; go_simp; rfl) ?_
              go_simp
              refine wpP_light _ rfl rfl _ (fun w' hS => by go_simp; rfl) ?_
              go_simp
              refine wpP_quiet _ rfl rfl _ 29 #[.int .i64 (IntKind.i64.wrap (z0.tdiv 5)), .int .i64 4] (fun w' hS => by go_simp) HQ29.out ?_
              refine wpP_light _ rfl rfl _ (fun w' hS => by go_simp; rfl) ?_
              go_simp
              have bV : Below wr.drew.heap.size wr.drew (wr.drew.alloc (.cells #[.int .i64 oo, .slice none 0 0] 55)) := (Below.refl _ _).alloc (Nat.le_refl _) _
              have HMd := Lib.hid ((HM.out.below (Below.refl _ _).drew).below bV)
              refine wpP_value _ rfl rfl (.slice (some ⟨wr.heap.size, 0, none⟩) 1 1) (wr.drew.alloc (.cells #[.int .i64 oo, .slice none 0 0] 55)) ?_ ⟨.inr ⟨?_, ?_⟩, ?_⟩
              · go_simp
              · exact keeps_of_below bV _ _ p0
              · exact keeps_of_below bV _ _ c0
              refine wpP_append _ rfl rfl (.tmp 54) (.tmp 63) 22 rfl (w.heap.size + 1 + 1) 55 i0 (.agg #[.int .i64 0, .slice none 0 0]) 2 32 Tryd.underlying22 HI0.out.1 HI0.out.2.1 HI0.out.2.2.1 HI0.out.2.2.2 rfl (by decide) (.slice (some ⟨g, 0, none⟩) (init.length + 1) vc) (init.length + 1) (rvCells ((init ++ [((qo, its), .slice ia its.length ic)]))) rfl (by have := HMd.out.row; rw [hlen] at this; exact this) ⟨wr.heap.size, 0, none⟩ 1 1 [.int .i64 oo, .slice none 0 0] rfl rfl ?_ ?_ ?_ ?_ ?_ ?_
              · exact new_cells _ [.int .i64 oo, .slice none 0 0] 55 _ rfl
              · intro u hu
                simp only [List.mem_cons, List.not_mem_nil, or_false] at hu
                rcases hu with rfl | rfl <;> rfl
              · unfold maxLen; omega
              · omega
              · simp; omega
              intro v1 w1 ho1 hg1 _
              have hb1 : w1.heap[w.heap.size + 1]? = some (.cells #[.slice (some ⟨g, 0, none⟩) (init.length + 1) vc] 24 (0, 0)) := (hg1.block _ (heap_lt HMd.out.pb) (fun e => by have := (HMd.out.row.lt _ e.symm).1; omega)).trans HMd.out.pb
              have hl1 : Below w.heap.size w w1 := HMd.out.lowW.grown hg1 HMd.out.lowW.size (fun j e => by have := (HMd.out.row.lt j e).1; omega)
              have q0 : w1.cell? ⟨w.heap.size + 1, 0, none⟩ = some (.slice (some ⟨g, 0, none⟩) (init.length + 1) vc) := (cell_of_row w1 _ 0 _ _ _ hb1).trans rfl
              have qf : w1.frozen? ⟨w.heap.size + 1, 0, none⟩ = false := frozen_of_row w1 _ 0 _ _ hb1
              obtain ⟨g1, vc1, rfl⟩ := ownsRow_succ ho1
              have HM1 := Lib.hid (HMd.out.addRule (op := oo) (by simp) (by first | (simp; done) | omega) HFO.out (by rw [hlen]; exact ho1) hg1)
              refine ⟨.inr ⟨q0, keeps_of_below hl1 _ _ D0.out⟩, ?_⟩
              refine wpP_light _ rfl rfl _ (fun w' hS => by go_simp; rfl) ?_
              go_simp
              refine wpP_skipH _ rfl rfl (w1.setCell ⟨w.heap.size + 1, 0, none⟩ (.slice (some ⟨g1, 0, none⟩) ((init.length + 1) + 1) vc1)) ?_ ⟨.inl rfl, ?_⟩
              · go_simp
              refine wpP_nil ?_
              obtain ⟨W, hW⟩ : ∃ W, W = w1.setCell ⟨w.heap.size + 1, 0, none⟩ (.slice (some ⟨g1, 0, none⟩) ((init.length + 1) + 1) vc1) := ⟨_, rfl⟩
              rw [← hW] at HM1 ⊢
              clear hW q0 qf hb1 hl1 ho1 hg1 bV HMd p0 pf c0
              obtain ⟨init, its, ia, ic, qo, g, vc, HM, h4, h8⟩ : ∃ (init : List RV) (its : List It) (ia : Option Addr) (ic : Nat) (qo : Int) (g vc : Nat), Hid (MS (w.alloc (.cells #[.slice none 0 0] 24)) (w.heap.size + 1) (init ++ [((qo, its), .slice ia its.length ic)]) (.slice (some ⟨g, 0, none⟩) (init.length + 1) vc) W) ∧ its.length < 4 ∧ init.length + 1 ≤ 8 := ⟨(init ++ [((qo, its), .slice ia its.length ic)]), [], none, 0, oo, g1, vc1, (by rw [hlen]; exact HM1), by simp, by first | (simp; done) | omega⟩
              clear HM1
              have p0 : W.cell? ⟨w.heap.size + 1, 0, none⟩ = some (.slice (some ⟨g, 0, none⟩) (init.length + 1) vc) := (cell_of_row W _ 0 _ _ _ HM.out.pb).trans rfl
              have c3 := keeps_of_below HM.out.lowW _ _ D3.out
              obtain ⟨m, hq3, hm⟩ : ∃ m : Nat, (∀ w' : World, Calls Tryd.prog 29 #[.int .i64 z3, .int .i64 3] w' fun e w'' => e = .returned (.int .i64 (m : Int)) ∧ w' = w'') ∧ m < 3 := by
                have h := pick_lt z3 3 (by decide)
                refine ⟨(pickZ z3 3).toNat, fun w' => ?_, by omega⟩
                rw [Int.toNat_of_nonneg h.1]; exact f29_any _ 3 w' HZ3.out (by decide) (by decide)
              obtain ⟨l2, hq2, hl2⟩ : ∃ m : Nat, (∀ w' : World, Calls Tryd.prog 29 #[.int .i64 z2, .int .i64 4] w' fun e w'' => e = .returned (.int .i64 (m : Int)) ∧ w' = w'') ∧ m < 4 := by
                have h := pick_lt z2 4 (by decide)
                refine ⟨(pickZ z2 4).toNat, fun w' => ?_, by omega⟩
                rw [Int.toNat_of_nonneg h.1]; exact f29_any _ 4 w' HZ2.out (by decide) (by decide)
              obtain ⟨o1, hq1, ho1⟩ : ∃ m : Nat, (∀ w' : World, Calls Tryd.prog 29 #[.int .i64 z1, .int .i64 4] w' fun e w'' => e = .returned (.int .i64 (m : Int)) ∧ w' = w'') ∧ m < 4 := by
                have h := pick_lt z1 4 (by decide)
                refine ⟨(pickZ z1 4).toNat, fun w' => ?_, by omega⟩
                rw [Int.toNat_of_nonneg h.1]; exact f29_any _ 4 w' HZ1.out (by decide) (by decide)
              have HQ1 := Lib.hid hq1
              have HQ2 := Lib.hid hq2
              have HQ3 := Lib.hid hq3
              clear hq1 hq2 hq3
              go_wp2_with (go_at_call 29; refine (HQ3.out _).mono ?_; rintro e w1 ⟨rfl, rfl⟩)
              have c1 := keeps_of_below HM.out.lowW _ _ D1.out
              have c2 := keeps_of_below HM.out.lowW _ _ D2.out
              refine wp_region_ordQ 17 [(0, true), (1, true), (2, true), (3, true), (4, true), (5, true), (6, true), (7, true), (8, true), (9, true), (10, true), (11, true), (12, true), (13, true), (14, true), (15, true), (16, false), (17, false)] (fun w' => w'.cell? ⟨xb, xo + k * 4 + 1, none⟩ = some (.int .i64 z1) ∧ w'.cell? ⟨xb, xo + k * 4 + 2, none⟩ = some (.int .i64 z2))
                (by kernel_rfl) (by kernel_rfl) (by kernel_rfl) rfl (by kernel_rfl) (fun _ _ d _ _ h => by cases d <;> exact h) ⟨c1, c2⟩ ?_
              refine wpP_light _ rfl rfl _ (fun w' hS => by go_simp; rfl) ?_
              refine wpP_light _ rfl rfl _ (fun w' hS => by go_simp; rfl) ?_
              refine wpP_light _ rfl rfl _ (fun w' hS => by go_simp; rfl) ?_
              go_simp
              refine wpP_light _ rfl rfl _ (fun w' hS => by go_simp; rfl) ?_
              refine wpP_light _ rfl rfl _ (fun w' hS => by obtain ⟨s1, s2⟩ := hS; go_simp; rfl) ?_
              go_simp
              refine wpP_quiet _ rfl rfl _ 29 #[.int .i64 z1, .int .i64 4] (fun w' hS => by go_simp) HQ1.out ?_
              refine wpP_light _ rfl rfl _ (fun w' hS => by go_simp; rfl) ?_
              refine wpP_light _ rfl rfl _ (fun w' hS => by go_simp; rfl) ?_
              refine wpP_light _ rfl rfl _ (fun w' hS => by go_simp; rfl) ?_
              go_simp
              refine wpP_light _ rfl rfl _ (fun w' hS => by go_simp; rfl) ?_
              refine wpP_light _ rfl rfl _ (fun w' hS => by go_simp; rfl) ?_
              refine wpP_light _ rfl rfl _ (fun w' hS => by obtain ⟨s1, s2⟩ := hS; go_simp; rfl) ?_
              go_simp
              refine wpP_quiet _ rfl rfl _ 29 #[.int .i64 z2, .int .i64 4] (fun w' hS => by go_simp) HQ2.out ?_
              refine wpP_light _ rfl rfl _ (fun w' hS => by go_simp; rfl) ?_
              refine wpP_light _ rfl rfl _ (fun w' hS => by go_simp; rfl) ?_
              refine wpP_light _ rfl rfl _ (fun w' hS => by go_simp; rfl) ?_
              go_simp
              have bV : ∀ o : Obj, Below W.heap.size W (W.drew.alloc o) := fun o => (Below.refl _ W).drew.alloc (Nat.le_refl _) _
              refine wpP_value _ rfl rfl (.pointer (some ⟨W.heap.size, 0, none⟩)) (W.drew.alloc (.cells #[.int .i64 0, .int .i64 0, .int .i64 0] 59)) ?_ ⟨.inr ⟨keeps_of_below (bV _) _ _ c1, keeps_of_below (bV _) _ _ c2⟩, ?_⟩
              · go_simp
              go_simp
              refine wpP_skipH _ rfl rfl (W.drew.alloc (.cells #[.int .i64 o1, .int .i64 (min (1 + m) l2), .int .i64 (1 + m)] 59)) ?_ ⟨.inl rfl, ?_⟩
              · go_simp
              refine wpP_nil ?_
              have hM2 := HM.out.below (bV (.cells #[.int .i64 o1, .int .i64 (min (1 + m) l2), .int .i64 (1 + m)] 59))
              have hY2 : (W.drew.alloc (.cells #[.int .i64 o1, .int .i64 (min (1 + m) l2), .int .i64 (1 + m)] 59)).heap[W.heap.size]? = some (.cells #[.int .i64 o1, .int .i64 (min (1 + m) l2), .int .i64 (1 + m)] 59 (0, 0)) := World.alloc_heap_new W.drew _
              have hiY : ∀ j, (Value.slice ia its.length ic).ownBlock = some j → j < W.heap.size := fun j hj => ((HM.out.its ((qo, its), .slice ia its.length ic) (by simp)).lt j hj).2
              obtain ⟨V, hV⟩ : ∃ V, V = W.drew.alloc (.cells #[.int .i64 o1, .int .i64 (min (1 + m) l2), .int .i64 (1 + m)] 59) := ⟨_, rfl⟩
              rw [← hV] at hM2 hY2 ⊢
              clear hV bV c1 c2 c3 p0 HM
              obtain ⟨Y, hY⟩ : ∃ Y, Y = W.heap.size := ⟨_, rfl⟩
              rw [← hY] at hY2 hiY ⊢
              have p0 : V.cell? ⟨w.heap.size + 1, 0, none⟩ = some (.slice (some ⟨g, 0, none⟩) (init.length + 1) vc) := (cell_of_row V _ 0 _ _ _ hM2.pb).trans rfl
              have HM2 := Lib.hid hM2
              have HIY := Lib.hid hiY
              have HY2 := Lib.hid hY2
              clear hY hM2 hiY hY2
              go_wp2_with fail
              obtain ⟨i0, HI0⟩ := part59
              have hrow : V.ownsRow (w.heap.size + 1 + 1) 55 2 (.slice (some ⟨g, 0, none⟩) (init.length + 1) vc) (init.length + 1) (rvCells (init ++ [((qo, its), .slice ia its.length ic)])) := by
                have := HM2.out.row
                rwa [show (init ++ [((qo, its), Value.slice ia its.length ic)]).length = init.length + 1 by simp] at this
              have e1 : V.cell? ⟨g, init.length * 2 + 1, none⟩ = some (.slice ia its.length ic) := by
                have := hrow.cells (g := g) rfl _ _ (rvCells_last init _)
                rw [Addr.add_mid, Nat.zero_add] at this
                exact this
              have y0 : V.cell? ⟨Y, 0, none⟩ = some (.int .i64 o1) := (cell_of_row V _ 0 _ _ _ HY2.out).trans rfl
              have y1 : V.cell? ⟨Y, 1, none⟩ = some (.int .i64 (min (1 + m) l2)) := (cell_of_row V _ 1 _ _ _ HY2.out).trans rfl
              have y2 : V.cell? ⟨Y, 2, none⟩ = some (.int .i64 (1 + m)) := (cell_of_row V _ 2 _ _ _ HY2.out).trans rfl
              have hgY : g ≠ Y := by
                rintro rfl
                rcases hrow.2 with ⟨e0, _⟩ | ⟨g', cap', cur, e0, _, hg', _⟩
                · cases e0
                · injection e0 with e0; injection e0 with e0; injection e0 with e0; subst e0
                  have := HY2.out.symm.trans hg'
                  simp at this
              have HROW := Lib.hid hrow
              have hlt1 : (init.length : Int) < (init.length : Int) + 1 := by omega
              have HGY := Lib.hid hgY
              clear hrow hgY
              refine wp_region_ordQ 14 [(0, true), (1, true), (2, true), (3, true), (4, true), (5, true), (6, true), (7, true), (8, true), (9, true), (10, false), (11, false), (12, true), (13, true), (14, false)] (fun w' => w'.cell? ⟨w.heap.size + 1, 0, none⟩ = some (.slice (some ⟨g, 0, none⟩) (init.length + 1) vc) ∧ w'.cell? ⟨g, init.length * 2 + 1, none⟩ = some (.slice ia its.length ic) ∧ w'.cell? ⟨Y, 0, none⟩ = some (.int .i64 o1) ∧ w'.cell? ⟨Y, 1, none⟩ = some (.int .i64 (min (1 + m) l2)) ∧ w'.cell? ⟨Y, 2, none⟩ = some (.int .i64 (1 + m)))
                (by kernel_rfl) (by kernel_rfl) (by kernel_rfl) rfl (by kernel_rfl) (fun _ _ d _ _ h => by cases d <;> exact h) ⟨p0, e1, y0, y1, y2⟩ ?_
              refine wpP_light _ rfl rfl _ (fun w' hS => by go_simp; rfl) ?_
              refine wpP_light _ rfl rfl _ (fun w' hS => by obtain ⟨s1, s2, s3, s4, s5⟩ := hS; go_simp; rfl) ?_
              refine wpP_light _ rfl rfl _ (fun w' hS => by go_simp; rfl) ?_
              go_simp
              refine wpP_light _ rfl rfl _ (fun w' hS => by go_simp; rfl) ?_
              refine wpP_light _ rfl rfl _ (fun w' hS => by obtain ⟨s1, s2, s3, s4, s5⟩ := hS; go_simp; rfl) ?_
              refine wpP_light _ rfl rfl _ (fun w' hS => by go_simp; rfl) ?_
              go_simp
              refine wpP_light _ rfl rfl _ (fun w' hS => by go_simp; rfl) ?_
              refine wpP_light _ rfl rfl _ (fun w' hS => by go_simp; rfl) ?_
              refine wpP_light _ rfl rfl _ (fun w' hS => by obtain ⟨s1, s2, s3, s4, s5⟩ := hS; go_simp; rfl) ?_
              go_simp
              refine wpP_light _ rfl rfl _ (fun w' hS => by obtain ⟨s1, s2, s3, s4, s5⟩ := hS; go_simp; rfl) ?_
              go_simp
              have bX : Below V.heap.size V (V.drew.alloc (.cells #[.int .i64 o1, .int .i64 (min (1 + m) l2), .int .i64 (1 + m)] 59)) := (Below.refl _ V).drew.alloc (Nat.le_refl _) _
              have HMx := Lib.hid (HM2.out.below bX)
              refine wpP_value _ rfl rfl (.slice (some ⟨V.heap.size, 0, none⟩) 1 1) (V.drew.alloc (.cells #[.int .i64 o1, .int .i64 (min (1 + m) l2), .int .i64 (1 + m)] 59)) ?_ ⟨.inr ⟨keeps_of_below bX _ _ p0, keeps_of_below bX _ _ e1, keeps_of_below bX _ _ y0, keeps_of_below bX _ _ y1, keeps_of_below bX _ _ y2⟩, ?_⟩
              · go_simp
              have hox : (V.drew.alloc (.cells #[.int .i64 o1, .int .i64 (min (1 + m) l2), .int .i64 (1 + m)] 59)).ownsRow (w.heap.size + 1 + 1) 59 3 (.slice ia its.length ic) its.length (itCells its) := HMx.out.its ((qo, its), .slice ia its.length ic) (by simp)
              have HOX := Lib.hid hox
              clear hox
              refine wpP_append _ rfl rfl (.tmp 101) (.tmp 103) 53 rfl (w.heap.size + 1 + 1) 59 i0 (.agg #[.int .i64 0, .int .i64 0, .int .i64 0]) 3 24 Tryd.underlying53 HI0.out.1 HI0.out.2.1 HI0.out.2.2.1 HI0.out.2.2.2 rfl (by decide) (.slice ia its.length ic) its.length (itCells its) rfl HOX.out ⟨V.heap.size, 0, none⟩ 1 1 [.int .i64 o1, .int .i64 (min (1 + m) l2), .int .i64 (1 + m)] rfl rfl ?_ ?_ ?_ ?_ ?_ ?_
              · exact new_cells _ [.int .i64 o1, .int .i64 (min (1 + m) l2), .int .i64 (1 + m)] 59 _ rfl
              · intro u hu
                simp only [List.mem_cons, List.not_mem_nil, or_false] at hu
                rcases hu with rfl | rfl | rfl <;> rfl
              · unfold maxLen; omega
              · omega
              · have := HMx.out.lowW.size; have := heap_lt HMx.out.pb; omega
              intro v1 w1 ho1 hg1 hat
              have far : ∀ (a : Addr) (u : Value), a.block < V.heap.size → (Value.slice ia its.length ic).ownBlock ≠ some a.block → V.cell? a = some u → w1.cell? a = some u := fun a u _ hne hc => by
                exact hg1.cell (keeps_of_below bX _ _ hc) (fun e => hne e.symm)
              have nb : (Value.slice ia its.length ic).ownBlock ≠ some (w.heap.size + 1) := fun e => by have := (HOX.out.lt _ e).1; omega
              have ng : (Value.slice ia its.length ic).ownBlock ≠ some g := fun e => by
                have := own_types HOX.out HMx.out.row (by decide) g e
                simp [Value.ownBlock] at this
              have nY : (Value.slice ia its.length ic).ownBlock ≠ some Y := fun e => by have := HIY.out _ e; omega
              have hlY : Y < V.heap.size := heap_lt HY2.out
              have hlg : g < V.heap.size := (HROW.out.lt g rfl).2
              have hlb : w.heap.size + 1 < V.heap.size := heap_lt HM2.out.pb
              have s1 := far ⟨w.heap.size + 1, 0, none⟩ _ hlb nb p0
              have s2 := far ⟨g, init.length * 2 + 1, none⟩ _ hlg ng e1
              have s3 := far ⟨Y, 0, none⟩ _ hlY nY y0
              have s4 := far ⟨Y, 1, none⟩ _ hlY nY y1
              have s5 := far ⟨Y, 2, none⟩ _ hlY nY y2
              have sf : w1.frozen? ⟨g, init.length * 2 + 1, none⟩ = false := by
                have hr1 := grown_kept HROW.out (grown_trans (grownBel bX _) hg1) (fun j hj => by
                  have := own_types HROW.out (HM2.out.its ((qo, its), .slice ia its.length ic) (by simp)) (by decide) j hj
                  exact this)
                rcases hr1.2 with ⟨e0, _⟩ | ⟨g', cap', cur, e0, _, hg', _⟩
                · cases e0
                · injection e0 with e0; injection e0 with e0; injection e0 with e0; subst e0
                  exact frozen_of_row w1 _ _ _ _ hg'
              have hx : mItem ((o1 : Int), min (1 + (m : Int)) l2, 1 + (m : Int)) := by
                unfold mItem Four; simp only; omega
              have HM4 := Lib.hid (HMx.out.addItem (x := ((o1 : Int), min (1 + (m : Int)) l2, 1 + (m : Int))) (by simp) h4 hx ho1 hg1 hat)
              obtain ⟨a1, c1', rfl⟩ := own_slice ho1
              refine ⟨.inr ⟨s1, s2, s3, s4, s5⟩, ?_⟩
              clear far nb ng nY s3 s4 s5 ho1 hg1 hat
              refine wpP_light _ rfl rfl _ (fun w' hS => by go_simp; rfl) ?_
              refine wpP_light _ rfl rfl _ (fun w' hS => by go_simp; rfl) ?_
              go_simp
              refine wpP_skipH _ rfl rfl (w1.setCell ⟨g, init.length * 2 + 1, none⟩ (.slice a1 (its.length + 1) c1')) ?_ ⟨.inl rfl, ?_⟩
              · go_simp
              refine wpP_nil ?_
              obtain ⟨U, hU⟩ : ∃ U, U = w1.setCell ⟨g, init.length * 2 + 1, none⟩ (.slice a1 (its.length + 1) c1') := ⟨_, rfl⟩
              rw [← hU] at HM4 ⊢
              clear hU s1 s2 sf p0 e1 y0 y1 y2 HMx HM2 HOX HROW bX
              go_wp2_with fail
              exact ⟨⟨k + 1, _, _, by go_num, by omega, by omega, by simp, HM4.out⟩, by simp only [intOf]; omega⟩

          · have d8 : decide ((init.length : Int) + 1 < 8) = false := by simp; omega
            by_cases h4 : its.length = 4
            · have d4 : ((its.length : Int) == 4) = true := by simp; omega
              have d88 : ((init.length : Int) + 1 == 8) = true := by simp; omega
              go_wp2_with (go_at_call 29; refine (f29_any _ 5 _ HZ0.out (by decide) (by decide)).mono ?_; rintro e w1 ⟨rfl, rfl⟩)
              exact bodyPost_ret (v := .agg #[.slice (some ⟨g, 0, none⟩) (init.length + 1) vc]) (by simp [results, Tryd.results11, go_sem, r0]) rfl (HM.out.post _)
            · have d4 : ((its.length : Int) == 4) = false := by simp; omega
              clear p0
              have h4 : its.length < 4 := by omega
              obtain ⟨W, rfl⟩ : ∃ W : World, W = wr := ⟨_, rfl⟩
              have p0 : W.cell? ⟨w.heap.size + 1, 0, none⟩ = some (.slice (some ⟨g, 0, none⟩) (init.length + 1) vc) := (cell_of_row W _ 0 _ _ _ HM.out.pb).trans rfl
              have c3 := keeps_of_below HM.out.lowW _ _ D3.out
              obtain ⟨m, hq3, hm⟩ : ∃ m : Nat, (∀ w' : World, Calls Tryd.prog 29 #[.int .i64 z3, .int .i64 3] w' fun e w'' => e = .returned (.int .i64 (m : Int)) ∧ w' = w'') ∧ m < 3 := by
                have h := pick_lt z3 3 (by decide)
                refine ⟨(pickZ z3 3).toNat, fun w' => ?_, by omega⟩
                rw [Int.toNat_of_nonneg h.1]; exact f29_any _ 3 w' HZ3.out (by decide) (by decide)
              obtain ⟨l2, hq2, hl2⟩ : ∃ m : Nat, (∀ w' : World, Calls Tryd.prog 29 #[.int .i64 z2, .int .i64 4] w' fun e w'' => e = .returned (.int .i64 (m : Int)) ∧ w' = w'') ∧ m < 4 := by
                have h := pick_lt z2 4 (by decide)
                refine ⟨(pickZ z2 4).toNat, fun w' => ?_, by omega⟩
                rw [Int.toNat_of_nonneg h.1]; exact f29_any _ 4 w' HZ2.out (by decide) (by decide)
              obtain ⟨o1, hq1, ho1⟩ : ∃ m : Nat, (∀ w' : World, Calls Tryd.prog 29 #[.int .i64 z1, .int .i64 4] w' fun e w'' => e = .returned (.int .i64 (m : Int)) ∧ w' = w'') ∧ m < 4 := by
                have h := pick_lt z1 4 (by decide)
                refine ⟨(pickZ z1 4).toNat, fun w' => ?_, by omega⟩
                rw [Int.toNat_of_nonneg h.1]; exact f29_any _ 4 w' HZ1.out (by decide) (by decide)
              have HQ1 := Lib.hid hq1
              have HQ2 := Lib.hid hq2
              have HQ3 := Lib.hid hq3
              clear hq1 hq2 hq3
              go_wp2_with (first | (go_at_call 29; with_reducible refine (HQ3.out _).mono ?_; rintro e w1 ⟨rfl, rfl⟩) | (go_at_call 29; refine (f29_any _ 5 _ HZ0.out (by decide) (by decide)).mono ?_; rintro e w1 ⟨rfl, rfl⟩))
              have c1 := keeps_of_below HM.out.lowW _ _ D1.out
              have c2 := keeps_of_below HM.out.lowW _ _ D2.out
              refine wp_region_ordQ 17 [(0, true), (1, true), (2, true), (3, true), (4, true), (5, true), (6, true), (7, true), (8, true), (9, true), (10, true), (11, true), (12, true), (13, true), (14, true), (15, true), (16, false), (17, false)] (fun w' => w'.cell? ⟨xb, xo + k * 4 + 1, none⟩ = some (.int .i64 z1) ∧ w'.cell? ⟨xb, xo + k * 4 + 2, none⟩ = some (.int .i64 z2))
                (by kernel_rfl) (by kernel_rfl) (by kernel_rfl) rfl (by kernel_rfl) (fun _ _ d _ _ h => by cases d <;> exact h) ⟨c1, c2⟩ ?_
              refine wpP_light _ rfl rfl _ (fun w' hS => by go_simp; rfl) ?_
              refine wpP_light _ rfl rfl _ (fun w' hS => by go_simp; rfl) ?_
              refine wpP_light _ rfl rfl _ (fun w' hS => by go_simp; rfl) ?_
              go_simp
              refine wpP_light _ rfl rfl _ (fun w' hS => by go_simp; rfl) ?_
              refine wpP_light _ rfl rfl _ (fun w' hS => by obtain ⟨s1, s2⟩ := hS; go_simp; rfl) ?_
              go_simp
              refine wpP_quiet _ rfl rfl _ 29 #[.int .i64 z1, .int .i64 4] (fun w' hS => by go_simp) HQ1.out ?_
              refine wpP_light _ rfl rfl _ (fun w' hS => by go_simp; rfl) ?_
              refine wpP_light _ rfl rfl _ (fun w' hS => by go_simp; rfl) ?_
              refine wpP_light _ rfl rfl _ (fun w' hS => by go_simp; rfl) ?_
              go_simp
              refine wpP_light _ rfl rfl _ (fun w' hS => by go_simp; rfl) ?_
              refine wpP_light _ rfl rfl _ (fun w' hS => by go_simp; rfl) ?_
              refine wpP_light _ rfl rfl _ (fun w' hS => by obtain ⟨s1, s2⟩ := hS; go_simp; rfl) ?_
              go_simp
              refine wpP_quiet _ rfl rfl _ 29 #[.int .i64 z2, .int .i64 4] (fun w' hS => by go_simp) HQ2.out ?_
              refine wpP_light _ rfl rfl _ (fun w' hS => by go_simp; rfl) ?_
              refine wpP_light _ rfl rfl _ (fun w' hS => by go_simp; rfl) ?_
              refine wpP_light _ rfl rfl _ (fun w' hS => by go_simp; rfl) ?_
              go_simp
              have bV : ∀ o : Obj, Below W.heap.size W (W.drew.alloc o) := fun o => (Below.refl _ W).drew.alloc (Nat.le_refl _) _
              refine wpP_value _ rfl rfl (.pointer (some ⟨W.heap.size, 0, none⟩)) (W.drew.alloc (.cells #[.int .i64 0, .int .i64 0, .int .i64 0] 59)) ?_ ⟨.inr ⟨keeps_of_below (bV _) _ _ c1, keeps_of_below (bV _) _ _ c2⟩, ?_⟩
              · go_simp
              go_simp
              refine wpP_skipH _ rfl rfl (W.drew.alloc (.cells #[.int .i64 o1, .int .i64 (min (1 + m) l2), .int .i64 (1 + m)] 59)) ?_ ⟨.inl rfl, ?_⟩
              · go_simp
              refine wpP_nil ?_
              have hM2 := HM.out.below (bV (.cells #[.int .i64 o1, .int .i64 (min (1 + m) l2), .int .i64 (1 + m)] 59))
              have hY2 : (W.drew.alloc (.cells #[.int .i64 o1, .int .i64 (min (1 + m) l2), .int .i64 (1 + m)] 59)).heap[W.heap.size]? = some (.cells #[.int .i64 o1, .int .i64 (min (1 + m) l2), .int .i64 (1 + m)] 59 (0, 0)) := World.alloc_heap_new W.drew _
              have hiY : ∀ j, (Value.slice ia its.length ic).ownBlock = some j → j < W.heap.size := fun j hj => ((HM.out.its ((qo, its), .slice ia its.length ic) (by simp)).lt j hj).2
              obtain ⟨V, hV⟩ : ∃ V, V = W.drew.alloc (.cells #[.int .i64 o1, .int .i64 (min (1 + m) l2), .int .i64 (1 + m)] 59) := ⟨_, rfl⟩
              rw [← hV] at hM2 hY2 ⊢
              clear hV bV c1 c2 c3 p0 HM
              obtain ⟨Y, hY⟩ : ∃ Y, Y = W.heap.size := ⟨_, rfl⟩
              rw [← hY] at hY2 hiY ⊢
              have p0 : V.cell? ⟨w.heap.size + 1, 0, none⟩ = some (.slice (some ⟨g, 0, none⟩) (init.length + 1) vc) := (cell_of_row V _ 0 _ _ _ hM2.pb).trans rfl
              have HM2 := Lib.hid hM2
              have HIY := Lib.hid hiY
              have HY2 := Lib.hid hY2
              clear hY hM2 hiY hY2
              go_wp2_with fail
              obtain ⟨i0, HI0⟩ := part59
              have hrow : V.ownsRow (w.heap.size + 1 + 1) 55 2 (.slice (some ⟨g, 0, none⟩) (init.length + 1) vc) (init.length + 1) (rvCells (init ++ [((qo, its), .slice ia its.length ic)])) := by
                have := HM2.out.row
                rwa [show (init ++ [((qo, its), Value.slice ia its.length ic)]).length = init.length + 1 by simp] at this
              have e1 : V.cell? ⟨g, init.length * 2 + 1, none⟩ = some (.slice ia its.length ic) := by
                have := hrow.cells (g := g) rfl _ _ (rvCells_last init _)
                rw [Addr.add_mid, Nat.zero_add] at this
                exact this
              have y0 : V.cell? ⟨Y, 0, none⟩ = some (.int .i64 o1) := (cell_of_row V _ 0 _ _ _ HY2.out).trans rfl
              have y1 : V.cell? ⟨Y, 1, none⟩ = some (.int .i64 (min (1 + m) l2)) := (cell_of_row V _ 1 _ _ _ HY2.out).trans rfl
              have y2 : V.cell? ⟨Y, 2, none⟩ = some (.int .i64 (1 + m)) := (cell_of_row V _ 2 _ _ _ HY2.out).trans rfl
              have hgY : g ≠ Y := by
                rintro rfl
                rcases hrow.2 with ⟨e0, _⟩ | ⟨g', cap', cur, e0, _, hg', _⟩
                · cases e0
                · injection e0 with e0; injection e0 with e0; injection e0 with e0; subst e0
                  have := HY2.out.symm.trans hg'
                  simp at this
              have HROW := Lib.hid hrow
              have hlt1 : (init.length : Int) < (init.length : Int) + 1 := by omega
              have HGY := Lib.hid hgY
              clear hrow hgY
              refine wp_region_ordQ 14 [(0, true), (1, true), (2, true), (3, true), (4, true), (5, true), (6, true), (7, true), (8, true), (9, true), (10, false), (11, false), (12, true), (13, true), (14, false)] (fun w' => w'.cell? ⟨w.heap.size + 1, 0, none⟩ = some (.slice (some ⟨g, 0, none⟩) (init.length + 1) vc) ∧ w'.cell? ⟨g, init.length * 2 + 1, none⟩ = some (.slice ia its.length ic) ∧ w'.cell? ⟨Y, 0, none⟩ = some (.int .i64 o1) ∧ w'.cell? ⟨Y, 1, none⟩ = some (.int .i64 (min (1 + m) l2)) ∧ w'.cell? ⟨Y, 2, none⟩ = some (.int .i64 (1 + m)))
                (by kernel_rfl) (by kernel_rfl) (by kernel_rfl) rfl (by kernel_rfl) (fun _ _ d _ _ h => by cases d <;> exact h) ⟨p0, e1, y0, y1, y2⟩ ?_
              refine wpP_light _ rfl rfl _ (fun w' hS => by go_simp; rfl) ?_
              refine wpP_light _ rfl rfl _ (fun w' hS => by obtain ⟨s1, s2, s3, s4, s5⟩ := hS; go_simp; rfl) ?_
              refine wpP_light _ rfl rfl _ (fun w' hS => by go_simp; rfl) ?_
              go_simp
              refine wpP_light _ rfl rfl _ (fun w' hS => by go_simp; rfl) ?_
              refine wpP_light _ rfl rfl _ (fun w' hS => by obtain ⟨s1, s2, s3, s4, s5⟩ := hS; go_simp; rfl) ?_
              refine wpP_light _ rfl rfl _ (fun w' hS => by go_simp; rfl) ?_
              go_simp
              refine wpP_light _ rfl rfl _ (fun w' hS => by go_simp; rfl) ?_
              refine wpP_light _ rfl rfl _ (fun w' hS => by go_simp; rfl) ?_
              refine wpP_light _ rfl rfl _ (fun w' hS => by obtain ⟨s1, s2, s3, s4, s5⟩ := hS; go_simp; rfl) ?_
              go_simp
              refine wpP_light _ rfl rfl _ (fun w' hS => by obtain ⟨s1, s2, s3, s4, s5⟩ := hS; go_simp; rfl) ?_
              go_simp
              have bX : Below V.heap.size V (V.drew.alloc (.cells #[.int .i64 o1, .int .i64 (min (1 + m) l2), .int .i64 (1 + m)] 59)) := (Below.refl _ V).drew.alloc (Nat.le_refl _) _
              have HMx := Lib.hid (HM2.out.below bX)
              refine wpP_value _ rfl rfl (.slice (some ⟨V.heap.size, 0, none⟩) 1 1) (V.drew.alloc (.cells #[.int .i64 o1, .int .i64 (min (1 + m) l2), .int .i64 (1 + m)] 59)) ?_ ⟨.inr ⟨keeps_of_below bX _ _ p0, keeps_of_below bX _ _ e1, keeps_of_below bX _ _ y0, keeps_of_below bX _ _ y1, keeps_of_below bX _ _ y2⟩, ?_⟩
              · go_simp
              have hox : (V.drew.alloc (.cells #[.int .i64 o1, .int .i64 (min (1 + m) l2), .int .i64 (1 + m)] 59)).ownsRow (w.heap.size + 1 + 1) 59 3 (.slice ia its.length ic) its.length (itCells its) := HMx.out.its ((qo, its), .slice ia its.length ic) (by simp)
              have HOX := Lib.hid hox
              clear hox
              refine wpP_append _ rfl rfl (.tmp 101) (.tmp 103) 53 rfl (w.heap.size + 1 + 1) 59 i0 (.agg #[.int .i64 0, .int .i64 0, .int .i64 0]) 3 24 Tryd.underlying53 HI0.out.1 HI0.out.2.1 HI0.out.2.2.1 HI0.out.2.2.2 rfl (by decide) (.slice ia its.length ic) its.length (itCells its) rfl HOX.out ⟨V.heap.size, 0, none⟩ 1 1 [.int .i64 o1, .int .i64 (min (1 + m) l2), .int .i64 (1 + m)] rfl rfl ?_ ?_ ?_ ?_ ?_ ?_
              · exact new_cells _ [.int .i64 o1, .int .i64 (min (1 + m) l2), .int .i64 (1 + m)] 59 _ rfl
              · intro u hu
                simp only [List.mem_cons, List.not_mem_nil, or_false] at hu
                rcases hu with rfl | rfl | rfl <;> rfl
              · unfold maxLen; omega
              · omega
              · have := HMx.out.lowW.size; have := heap_lt HMx.out.pb; omega
              intro v1 w1 ho1 hg1 hat
              have far : ∀ (a : Addr) (u : Value), a.block < V.heap.size → (Value.slice ia its.length ic).ownBlock ≠ some a.block → V.cell? a = some u → w1.cell? a = some u := fun a u _ hne hc => by
                exact hg1.cell (keeps_of_below bX _ _ hc) (fun e => hne e.symm)
              have nb : (Value.slice ia its.length ic).ownBlock ≠ some (w.heap.size + 1) := fun e => by have := (HOX.out.lt _ e).1; omega
              have ng : (Value.slice ia its.length ic).ownBlock ≠ some g := fun e => by
                have := own_types HOX.out HMx.out.row (by decide) g e
                simp [Value.ownBlock] at this
              have nY : (Value.slice ia its.length ic).ownBlock ≠ some Y := fun e => by have := HIY.out _ e; omega
              have hlY : Y < V.heap.size := heap_lt HY2.out
              have hlg : g < V.heap.size := (HROW.out.lt g rfl).2
              have hlb : w.heap.size + 1 < V.heap.size := heap_lt HM2.out.pb
              have s1 := far ⟨w.heap.size + 1, 0, none⟩ _ hlb nb p0
              have s2 := far ⟨g, init.length * 2 + 1, none⟩ _ hlg ng e1
              have s3 := far ⟨Y, 0, none⟩ _ hlY nY y0
              have s4 := far ⟨Y, 1, none⟩ _ hlY nY y1
              have s5 := far ⟨Y, 2, none⟩ _ hlY nY y2
              have sf : w1.frozen? ⟨g, init.length * 2 + 1, none⟩ = false := by
                have hr1 := grown_kept HROW.out (grown_trans (grownBel bX _) hg1) (fun j hj => by
                  have := own_types HROW.out (HM2.out.its ((qo, its), .slice ia its.length ic) (by simp)) (by decide) j hj
                  exact this)
                rcases hr1.2 with ⟨e0, _⟩ | ⟨g', cap', cur, e0, _, hg', _⟩
                · cases e0
                · injection e0 with e0; injection e0 with e0; injection e0 with e0; subst e0
                  exact frozen_of_row w1 _ _ _ _ hg'
              have hx : mItem ((o1 : Int), min (1 + (m : Int)) l2, 1 + (m : Int)) := by
                unfold mItem Four; simp only; omega
              have HM4 := Lib.hid (HMx.out.addItem (x := ((o1 : Int), min (1 + (m : Int)) l2, 1 + (m : Int))) (by simp) h4 hx ho1 hg1 hat)
              obtain ⟨a1, c1', rfl⟩ := own_slice ho1
              refine ⟨.inr ⟨s1, s2, s3, s4, s5⟩, ?_⟩
              clear far nb ng nY s3 s4 s5 ho1 hg1 hat
              refine wpP_light _ rfl rfl _ (fun w' hS => by go_simp; rfl) ?_
              refine wpP_light _ rfl rfl _ (fun w' hS => by go_simp; rfl) ?_
              go_simp
              refine wpP_skipH _ rfl rfl (w1.setCell ⟨g, init.length * 2 + 1, none⟩ (.slice a1 (its.length + 1) c1')) ?_ ⟨.inl rfl, ?_⟩
              · go_simp
              refine wpP_nil ?_
              obtain ⟨U, hU⟩ : ∃ U, U = w1.setCell ⟨g, init.length * 2 + 1, none⟩ (.slice a1 (its.length + 1) c1') := ⟨_, rfl⟩
              rw [← hU] at HM4 ⊢
              clear hU s1 s2 sf p0 e1 y0 y1 y2 HMx HM2 HOX HROW bX
              go_wp2_with fail
              exact ⟨⟨k + 1, _, _, by go_num, by omega, by omega, by simp, HM4.out⟩, by simp only [intOf]; omega⟩

      · obtain rfl : k = 32 := by omega
        go_wp2_with fail
        exact bodyPost_ret (v := .agg #[.slice va rs.length vc]) (by simp [results, Tryd.results11, go_sem, r0]) rfl (HM.out.post _)
    · obtain rfl : k = n := by omega
      go_wp2_with fail
      exact bodyPost_ret (v := .agg #[.slice va rs.length vc]) (by simp [results, Tryd.results11, go_sem, r0]) rfl (HM.out.post _)
end Go.Proofs.YteilaajjpjhijaaDoor
