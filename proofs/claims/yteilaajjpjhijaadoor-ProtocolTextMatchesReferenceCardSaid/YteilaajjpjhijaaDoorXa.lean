/- Walk of the reader's rule. -/
import Derived.Test.YteilaajjpjhijaaDoorX9
import Derived.Deep.LoopGhost
namespace Go.Proofs.YteilaajjpjhijaaDoor
open Go.RowKit PSpec

def RulePost (b : Nat) (s : Bs) (v : Value) (rs : List RV) (w : World) (e : Ending) (w' : World) : Prop :=
  match ruleP s with
  | none => e = .returned (.bool false) ∧ Below b w w'
  | some (x, t) => e = .returned (.bool true) ∧ ∃ v' iv, RB w' b t v' ∧ w'.ownsRow (b + 1) 55 2 v' (rs.length + 1) (rvCells (rs ++ [(x, iv)])) ∧ w'.ownsRow (b + 1) 59 3 iv x.2.length (itCells x.2) ∧ Fr b v w w'
theorem below_of_grown {w w' : World} {b : Nat} (h : w.grownBy w' (some b)) (hb : b < w.heap.size) : Below b w w' :=
  ⟨h.os, h.tape, h.output, h.size, fun k hk => h.block k (by omega) (by simp; omega)⟩
theorem rule_no {b : Nat} {s : Bs} {v : Value} {rs : List RV} {w w' : World} (h : ruleP s = none) (hb : Below b w w') : RulePost b s v rs w (.returned (.bool false)) w' := by
  unfold RulePost; rw [h]; exact ⟨rfl, hb⟩

set_option maxRecDepth 100000 in
set_option maxHeartbeats 4000000 in
theorem f49_any (b : Nat) (s : Bs) (v : Value) (rs : List RV) (w : World) (h : RB w b s v) (hown : w.ownsRow (b + 1) 55 2 v rs.length (rvCells rs)) (hl : s.length ≤ 100000) (hlay : Lay w) (hb2 : 2 < b) (hrs : rs.length ≤ 1000) :
    Calls Tryd.prog 49 #[.pointer (some ⟨b, 0, none⟩)] w (RulePost b s v rs w) := by
  have c0 := h.cell0
  have hbw := h.lt
  have HRB := Lib.hid h
  have HOWN := Lib.hid hown
  have HLAY := Lib.hid hlay
  obtain ⟨op, s1, hn⟩ : ∃ op s1, numP [58] s = (op, s1) := ⟨_, _, rfl⟩
  have hs1 : s1.length ≤ s.length := by have := numP_len [58] s; rw [hn] at this; exact this
  have hrp : ruleP s = if hasP 58 s1 then endP s (loopP 8 (op, []) s1.tail) else none := by unfold ruleP; rw [hn]
  have hcall := f64_one 58 (by decide) b s v w h hl hlay
  rw [hn] at hcall
  have HC := Lib.hid hcall
  have HRP := Lib.hid hrp
  clear h hown hlay hcall hrp hn
  go_enter Tryd.func49, Tryd.ntmps49
  go_wp2_with (go_at_call 64; refine HC.out.mono ?_; rintro e w1 ⟨rfl, hr1, hg1⟩; have HR1 := Lib.hid hr1; have HG1 := Lib.hid hg1; clear hr1 hg1)
  have hb1 : b < w1.heap.size := HR1.out.lt
  have hsz1 : w.heap.size ≤ w1.heap.size := HG1.out.size
  have hR0 : RS w b v w1.heap.size s1 op (.slice none 0 0) [] (w1.alloc (.cells #[.int .i64 op, .slice none 0 0] 55)) := by
    have ba : Below w1.heap.size w1 (w1.alloc (.cells #[.int .i64 op, .slice none 0 0] 55)) := (Below.refl _ _).alloc (Nat.le_refl _) _
    exact ⟨HR1.out.below ba, World.alloc_heap_new _ _, World.ownsRow_nil _ _ _ _, grown_trans HG1.out (grownBel ba _), hsz1⟩
  have HR0 := Lib.hid hR0
  clear hR0
  obtain ⟨X, hX⟩ : ∃ X, X = w1.heap.size := ⟨_, rfl⟩
  rw [← hX] at HR0 ⊢
  refine (f65_any 58 b s1 v _ HR0.out.rb).mono ?_
  rintro e w2 ⟨rfl, hr2, hg2⟩
  have HR2 := Lib.hid (HR0.out.grown hbw hg2 hr2)
  have HX := Lib.hid hX
  clear hr2 hg2 HR0 hX
  cases hh : hasP 58 s1 with
  | false =>
    have hno : ruleP s = none := by rw [HRP.out, hh]; rfl
    have HNO := Lib.hid hno
    clear hno hh
    go_wp2_with fail
    go_ret
    exact rule_no HNO.out (below_of_grown HR2.out.gr hbw)
  | true =>
    have hsk : skipP 58 s1 = s1.tail := by unfold skipP; rw [hh]; rfl
    rw [hsk] at HR2
    obtain ⟨R, hR⟩ : ∃ R, loopP 8 (op, []) s1.tail = R := ⟨_, rfl⟩
    have hrp2 : ruleP s = endP s R := by rw [HRP.out, hh, ← hR]; rfl
    have HRP2 := Lib.hid hrp2
    have HRR := Lib.hid hR
    have hs2 : s1.tail.length ≤ s.length := by rw [List.length_tail]; omega
    clear hsk hh hrp2 HRP hR
    go_wp2_with fail
    go_loopg [5] 8 (fun g _ wr => ∃ (its : List It) (iv : Value) (t : Bs), its.length + g = 8 ∧ (g < 8 → ruleB (op, its) = true) ∧ loopP g (op, its) t = R ∧ t.length ≤ s.length ∧ RS w b v X t op iv its wr)
    case atStart => exact ⟨[], .slice none 0 0, s1.tail, rfl, fun h => absurd h (by omega), HRR.out, hs2, HR2.out⟩
    case round =>
      obtain ⟨its, iv, t, hg, hru, hlo, htl, hrs⟩ := hrel
      have HRU := Lib.hid hru
      have HLO := Lib.hid hlo
      have HRS := Lib.hid hrs
      clear hru hlo hrs HRR HR2 HR1 HG1 HC
      cases gk with
      | zero =>
        have := HRU.out (by omega)
        simp only [ruleB, Bool.and_eq_true, decide_eq_true_eq] at this
        omega
      | succ g =>
        go_wp2_with fail
        refine (f65_any 32 b t v _ HRS.out.rb).mono ?_
        rintro e w3 ⟨rfl, hr3, hg3⟩
        have HR3 := Lib.hid (HRS.out.grown hbw hg3 hr3)
        clear hr3 hg3
        cases hh : hasP 32 t with
        | true =>
          have hsk : skipP 32 t = t.tail := by unfold skipP; rw [hh]; rfl
          rw [hsk] at HR3
          have hlo2 : R = if ruleB (op, its ++ [(itP t.tail).1]) then loopP g (op, its ++ [(itP t.tail).1]) (itP t.tail).2 else none := by
            rw [← HLO.out]
            show (if hasP 32 t then _ else _) = _
            rw [hh]; rfl
          have HLO2 := Lib.hid hlo2
          have ht2 : t.tail.length ≤ 100000 := by rw [List.length_tail]; omega
          clear hsk hh hlo2
          obtain ⟨t0, ht0⟩ : ∃ t0, t0 = t.tail := ⟨_, rfl⟩
          rw [← ht0] at HR3 HLO2 ht2
          obtain ⟨ya, u1, hn1⟩ : ∃ ya u1, numP [42] t0 = (ya, u1) := ⟨_, _, rfl⟩
          obtain ⟨yl, u2', hn2⟩ : ∃ yl u2', numP [45] (skipP 42 u1) = (yl, u2') := ⟨_, _, rfl⟩
          obtain ⟨ym, u3, hn3⟩ : ∃ ym u3, numP [32, 10] (skipP 45 u2') = (ym, u3) := ⟨_, _, rfl⟩
          have hit : itP t0 = ((ya, yl, ym), u3) := by unfold itP; simp only [hn1, hn2, hn3]
          have l1 : u1.length ≤ t0.length := by have := numP_len [42] t0; rw [hn1] at this; exact this
          have l2 : (skipP 42 u1).length ≤ t0.length := Nat.le_trans (skipP_len _ _) l1
          have l3 : u2'.length ≤ t0.length := by have := numP_len [45] (skipP 42 u1); rw [hn2] at this; exact Nat.le_trans this l2
          have l4 : (skipP 45 u2').length ≤ t0.length := Nat.le_trans (skipP_len _ _) l3
          have l5 : u3.length ≤ t0.length := by have := numP_len [32, 10] (skipP 45 u2'); rw [hn3] at this; exact Nat.le_trans this l4
          have l6 : t0.length ≤ s.length := by rw [ht0, List.length_tail]; omega
          have q1 := fun W h hl => f64_one 42 (by decide) b t0 v W h ht2 hl
          have q2 := fun W h hl => f64_one 45 (by decide) b (skipP 42 u1) v W h (by omega) hl
          have q3 := fun W h hl => f64_sep b (skipP 45 u2') v W h (by omega) hl
          rw [hn1] at q1
          rw [hn2] at q2
          rw [hn3] at q3
          have Q1 := Lib.hid q1
          have Q2 := Lib.hid q2
          have Q3 := Lib.hid q3
          have HIT := Lib.hid hit
          have LL := Lib.hid (show u3.length ≤ s.length by omega)
          clear q1 q2 q3 hn1 hn2 hn3 hit ht0 l1 l2 l3 l4 l5 l6 ht2
          go_wp2_with fail
          refine (Q1.out _ HR3.out.rb (HLAY.out.grown HR3.out.gr hb2)).mono ?_
          rintro e w4 ⟨rfl, hr4, hg4⟩
          have HR4 := Lib.hid (HR3.out.grown hbw hg4 hr4)
          clear hr4 hg4
          have hszY : w.heap.size ≤ w4.heap.size := HR4.out.gr.size
          have hXY : X < w4.heap.size := heap_lt HR4.out.xb
          go_wp2_with fail
          have hR5 : RS w b v X u1 op iv its (w4.alloc (.cells #[.int .i64 ya, .int .i64 0, .int .i64 0] 59)) := HR4.out.below hbw ((Below.refl _ _).alloc (Nat.le_refl _) _)
          have hI5 : IB (w4.alloc (.cells #[.int .i64 ya, .int .i64 0, .int .i64 0] 59)) w4.heap.size ya 0 0 := World.alloc_heap_new _ _
          have hivY : iv.ownBlock ≠ some w4.heap.size := fun he => by
            have := (HR4.out.own.lt _ he).2
            omega
          obtain ⟨Y, hY⟩ : ∃ Y, Y = w4.heap.size := ⟨_, rfl⟩
          rw [← hY] at hI5 hivY hszY hXY ⊢
          have HR5 := Lib.hid hR5
          have HI5 := Lib.hid hI5
          have HIV := Lib.hid hivY
          have hYb : Y ≠ b := by omega
          have hYX : Y ≠ X := by omega
          have HYB := Lib.hid hYb
          have HYX := Lib.hid hYX
          clear hR5 hI5 hivY hYb hYX hY HR4
          refine (f65_any 42 b u1 v _ HR5.out.rb).mono ?_
          rintro e w6 ⟨rfl, hr6, hg6⟩
          have HR6 := Lib.hid (HR5.out.grown hbw hg6 hr6)
          have HI6 := Lib.hid (HI5.out.grown hg6 HYB.out)
          clear hr6 hg6 HR5 HI5
          go_wp2_with fail
          refine (Q2.out _ HR6.out.rb (HLAY.out.grown HR6.out.gr hb2)).mono ?_
          rintro e w7 ⟨rfl, hr7, hg7⟩
          have HR7 := Lib.hid (HR6.out.grown hbw hg7 hr7)
          have HI7 := Lib.hid (HI6.out.grown hg7 HYB.out)
          have cY := HI7.out.cell.2.1
          have fY := HI7.out.fr 1
          clear hr7 hg7 HR6 HI6
          go_wp2_with fail
          have HR8 := Lib.hid (HR7.out.setY HYB.out HYX.out HIV.out hszY 1 (.int .i64 yl))
          have HI8 := Lib.hid (HI7.out.set1 yl)
          clear cY fY
          refine (f65_any 45 b u2' v _ HR8.out.rb).mono ?_
          rintro e w9 ⟨rfl, hr9, hg9⟩
          have HR9 := Lib.hid (HR8.out.grown hbw hg9 hr9)
          have HI9 := Lib.hid (HI8.out.grown hg9 HYB.out)
          clear hr9 hg9 HR7 HI7 HR8 HI8
          go_wp2_with fail
          refine (Q3.out _ HR9.out.rb (HLAY.out.grown HR9.out.gr hb2)).mono ?_
          rintro e wa ⟨rfl, hra, hga⟩
          have HRa := Lib.hid (HR9.out.grown hbw hga hra)
          have HIa := Lib.hid (HI9.out.grown hga HYB.out)
          have cY := HIa.out.cell.2.2
          have fY := HIa.out.fr 2
          clear hra hga HR9 HI9
          have HRb := Lib.hid (HRa.out.setY HYB.out HYX.out HIV.out hszY 2 (.int .i64 ym))
          have HIb := Lib.hid (HIa.out.set2 ym)
          obtain ⟨xc0, xc1, xf⟩ := HRb.out.xcell
          obtain ⟨y0, y1, y2⟩ := HIb.out.cell
          have xf1 := xf 1
          clear xf
          obtain ⟨i0, HI0⟩ := part59
          have hIt6 : its.length ≤ 7 := by omega
          have bV : Below (wa.setCell ⟨Y, 2, none⟩ (.int .i64 ym)).heap.size (wa.setCell ⟨Y, 2, none⟩ (.int .i64 ym)) ((wa.setCell ⟨Y, 2, none⟩ (.int .i64 ym)).alloc (.cells #[.int .i64 ya, .int .i64 yl, .int .i64 ym] 59)) := (Below.refl _ _).alloc (Nat.le_refl _) _
          have HRc := Lib.hid (HRb.out.below hbw bV)
          clear bV HRa HIa HRb HIb
          go_wp2_with (at_builtin; refine wpList_append_own_at _ rfl (.tmp 49) (.tmp 51) 53 rfl w.heap.size 59 i0 (.agg #[.int .i64 0, .int .i64 0, .int .i64 0]) 3 24 Tryd.underlying53 HI0.out.1 HI0.out.2.1 HI0.out.2.2.1 HI0.out.2.2.2 rfl (by decide) iv its.length _ rfl HRc.out.own ⟨wa.heap.size, 0, none⟩ 1 1 [.int .i64 ya, .int .i64 yl, .int .i64 ym] rfl rfl ?_ ?_ ?_ ?_ ?_ ?_)
          · exact new_cells _ [.int .i64 ya, .int .i64 yl, .int .i64 ym] 59 _ (by simp [World.setCell])
          · intro u hu
            simp only [List.mem_cons, List.not_mem_nil, or_false] at hu
            rcases hu with rfl | rfl | rfl <;> rfl
          · unfold maxLen; omega
          · omega
          · have := HRc.out.gr.size; simpa using this
          · intro iv' wc hown' hgrow _ hat
            have hXn : iv'.ownBlock ≠ some X := by
              rcases hat with hat | hat
              · rw [hat]
                intro he
                obtain ⟨g1, cp, cr, hg1⟩ : ∃ cap cur fr, (((wa.setCell ⟨Y, 2, none⟩ (.int .i64 ym)).alloc (.cells #[.int .i64 ya, .int .i64 yl, .int .i64 ym] 59))).heap[X]? = some (.cells cur 59 fr) ∧ cap = cap := by
                  rcases HRc.out.own.2 with ⟨h1, _⟩ | ⟨g, cap, cur, h1, _, hgg, _⟩
                  · rw [h1] at he; simp [Value.ownBlock] at he
                  · rw [h1] at he
                    obtain rfl : g = X := by simpa [Value.ownBlock] using he
                    exact ⟨cap, cur, _, hgg, rfl⟩
                have h2 := HRc.out.xb.symm.trans hg1.1
                simp at h2
              · rw [hat]
                have := heap_lt HRc.out.xb
                intro he
                have he2 : ((wa.setCell ⟨Y, 2, none⟩ (.int .i64 ym)).alloc (.cells #[.int .i64 ya, .int .i64 yl, .int .i64 ym] 59)).heap.size = X := by simpa using he
                omega
            have HRd := Lib.hid (HRc.out.put (x := (ya, yl, ym)) hbw hown' hgrow hXn)
            have HXO : Hid (wc.heap[X]? = some (.cells #[.int .i64 op, iv] 55 (0, 0))) := by
              refine (hgrow.block X (heap_lt HRc.out.xb) fun e => ?_).trans HRc.out.xb
              rcases HRc.out.own.2 with ⟨h1, _⟩ | ⟨g, cap, cur, h1, _, hgg, _⟩
              · rw [h1] at e; simp [Value.ownBlock] at e
              · rw [h1] at e
                obtain rfl : X = g := by simpa [Value.ownBlock] using e
                have h2 := HRc.out.xb.symm.trans hgg
                simp at h2
            obtain ⟨va, vc, rfl⟩ := own_slice hown'
            have e0 : wc.cell? ⟨X, 0, none⟩ = some (.int .i64 op) := by rw [cell_of_row wc X 0 _ _ _ HXO.out]; rfl
            have e1 : wc.cell? ⟨X, 1, none⟩ = some iv := by rw [cell_of_row wc X 1 _ _ _ HXO.out]; rfl
            have ef : wc.frozen? ⟨X, 1, none⟩ = false := frozen_of_row wc X 1 _ _ HXO.out
            clear hown' hgrow hat hXn xc0 xc1 xf1 y0 y1 y2 cY fY HRc
            go_wp2_with fail
            refine (f43_any (op, its ++ [(ya, yl, ym)]) _ _ HRd.out.items).mono ?_
            rintro e wf ⟨rfl, hbf⟩
            have HRf := Lib.hid (HRd.out.below hbw hbf)
            rw [HIT.out] at HLO2
            clear hbf e0 e1 ef
            cases hrb : ruleB (op, its ++ [(ya, yl, ym)]) with
            | true =>
              have hlo3 : loopP g (op, its ++ [(ya, yl, ym)]) u3 = R := by rw [HLO2.out]; simp only [hrb, if_true]
              have HL3 := Lib.hid hlo3
              have HRB3 := Lib.hid hrb
              clear hlo3 hrb
              go_wp2_with fail
              go_roundg g
              case measure => omega
              case rel => exact ⟨its ++ [(ya, yl, ym)], _, u3, by rw [List.length_append, List.length_singleton]; omega, fun _ => HRB3.out, HL3.out, LL.out, HRf.out⟩
            | false =>
              have hno : ruleP s = none := by rw [HRP2.out, HLO2.out]; simp only [hrb, Bool.false_eq_true, if_false]; rfl
              have HNO := Lib.hid hno
              clear hno hrb
              go_wp2_with fail
              go_ret
              exact rule_no HNO.out (below_of_grown HRf.out.gr hbw)
        | false =>
          have hsk : skipP 32 t = t := by unfold skipP; rw [hh]; rfl
          rw [hsk] at HR3
          have hlo2 : R = some ((op, its), t) := by
            rw [← HLO.out]
            show (if hasP 32 t then _ else _) = _
            rw [hh]; rfl
          have hend : ruleP s = if hasP 10 t && ruleB (op, its) && (lineS (op, its)).isPrefixOf s then some ((op, its), t.tail) else none := by rw [HRP2.out, hlo2]; rfl
          have HEND := Lib.hid hend
          have hX3 := HR3.out.xl
          clear hsk hh hlo2 hend HRS
          go_wp2_with fail
          obtain ⟨ia, ic, rfl⟩ := own_slice HR3.out.own
          have hRv : RS w b v X t op (.slice ia its.length ic) its w3.drew := HR3.out.below hbw (Below.refl _ _).drew
          obtain ⟨xc0, xc1, _⟩ := hRv.xcell
          have HRv := Lib.hid hRv
          have hvo : w3.drew.ownsRow (b + 1) 55 2 v rs.length (rvCells rs) := HOWN.out.kept HRv.out.gr (by
            cases hv : v.ownBlock with
            | none => exact .inl rfl
            | some g => exact .inr (by have := (HOWN.out.lt g hv).1; simp; omega))
          have HVO := Lib.hid hvo
          clear hRv hvo HR3
          refine wp_region_pair [0, 1, 2, 3, 5] 4 6 [(7, false), (8, true), (9, true), (10, false)] (fun w' => w'.cell? ⟨X, 0, none⟩ = some (.int .i64 op) ∧ w'.cell? ⟨X, 1, none⟩ = some (.slice ia its.length ic))
            (by kernel_rfl) (by kernel_rfl) rfl (by kernel_rfl) (fun _ _ d _ _ h => by cases d <;> exact h) ⟨xc0, xc1⟩ ?_
          obtain ⟨V, hV⟩ : ∃ V, V = w3.drew := ⟨_, rfl⟩
          rw [← hV] at HRv HVO xc0 xc1 ⊢
          clear hV
          have XC0 := Lib.hid xc0
          have XC1 := Lib.hid xc1
          clear xc0 xc1
          refine wpLts_light _ rfl rfl _ (fun w' hS => by go_simp; rfl) ?_
          refine wpLts_light _ rfl rfl _ (fun w' hS => by go_simp; rfl) ?_
          refine wpLts_light _ rfl rfl _ (fun w' hS => by go_simp; rfl) ?_
          refine wpLts_light _ rfl rfl _ (fun w' hS => by go_simp; rfl) ?_
          refine wpLts_light _ rfl rfl _ (fun w' hS => by obtain ⟨s1, s2⟩ := hS; go_simp; rfl) ?_
          have hcb : V.cell? ⟨b, 1, none⟩ = some v := HRv.out.rb.cell1
          have bV : Below V.heap.size V (V.alloc (.cells #[.int .i64 op, .slice ia its.length ic] 55)) := (Below.refl _ _).alloc (Nat.le_refl _) _
          have HRv2 := Lib.hid (HRv.out.below hbw bV)
          have hcb2 : (V.alloc (.cells #[.int .i64 op, .slice ia its.length ic] 55)).cell? ⟨b, 1, none⟩ = some v := HRv2.out.rb.cell1
          have HVO2 := Lib.hid (own_bel HVO.out bV)
          have BV := Lib.hid bV
          clear bV
          refine wpPair_of _ _ rfl rfl v (.slice (some ⟨V.heap.size, 0, none⟩) 1 1) 61 63 rfl rfl (by decide) rfl rfl (by kernel_rfl) (by kernel_rfl) (by kernel_rfl) (V.alloc (.cells #[.int .i64 op, .slice ia its.length ic] 55)) ?_ ?_ ?_ ⟨XC0.out, XC1.out⟩ ⟨keeps_of_below BV.out _ _ XC0.out, keeps_of_below BV.out _ _ XC1.out⟩ ?_
          · go_simp
          · go_simp
          · go_simp
          clear hcb hcb2
          obtain ⟨i0, HI0⟩ := part55
          go_simp
          refine wpO_append _ rfl rfl (.tmp 61) (.tmp 63) 22 rfl (b + 1) 55 i0 (.agg #[.int .i64 0, .slice none 0 0]) 2 32 Tryd.underlying22 HI0.out.1 HI0.out.2.1 HI0.out.2.2.1 HI0.out.2.2.2 rfl (by decide) v _ _ rfl HVO2.out ⟨V.heap.size, 0, none⟩ 1 1 [.int .i64 op, .slice ia its.length ic] rfl rfl ?_ ?_ ?_ ?_ ?_ ?_
          · exact new_cells _ [.int .i64 op, .slice ia its.length ic] 55 _ rfl
          · intro u hu
            simp only [List.mem_cons, List.not_mem_nil, or_false] at hu
            rcases hu with rfl | rfl <;> rfl
          · unfold maxLen; omega
          · omega
          · rw [World.size_alloc]; have := HRv.out.rb.lt; omega
          · intro v' w' ho' hg' hat
            obtain ⟨va, vc, rfl⟩ := own_slice ho'
            have hE := RE.mk_ HRv2.out hbw HOWN.out hg' ho' hat
            have HE := Lib.hid hE
            have hgX : ∀ i u, (V.alloc (.cells #[.int .i64 op, .slice ia its.length ic] 55)).cell? ⟨X, i, none⟩ = some u → w'.cell? ⟨X, i, none⟩ = some u := fun i u hc => hg'.cell hc (by
              intro e
              have := (HOWN.out.lt _ e.symm).2
              simp at this
              omega)
            have hgb : RB w' b t v := (hg'.block b HRv2.out.rb.lt (fun e => by have := (HOWN.out.lt _ e.symm).1; omega)).trans HRv2.out.rb
            have hc1 := hgb.cell1
            have hf1 := hgb.fr 1
            have hk0 := hgX 0 _ HRv2.out.xcell.1
            have hk1 := hgX 1 _ HRv2.out.xcell.2.1
            refine ⟨⟨hk0, hk1⟩, ?_⟩
            have HK0 := Lib.hid hk0
            have HK1 := Lib.hid hk1
            clear hgX hgb hE hk0 hk1
            refine wpO_light _ rfl rfl _ (fun w' hS => by go_simp; rfl) ?_
            refine wpO_light _ rfl rfl _ (fun w' hS => by go_simp; rfl) ?_
            refine wpO_skipH _ rfl rfl (w'.setCell ⟨b, 1, none⟩ (.slice va (rs.length + 1) vc)) ?_ ⟨⟨?_, ?_⟩, ?_⟩
            · go_simp
            · have := HE.out.xb; rw [cell_of_row _ X 0 _ _ _ this]; rfl
            · have := HE.out.xb; rw [cell_of_row _ X 1 _ _ _ this]; rfl
            · refine wpO_nil ?_
              have hX0 := HRv2.out.xl
              have HF := Lib.hid (HE.out.fr.low HOWN.out hbw)
              clear hc1 hf1
              go_wp2_with fail
              refine (f65_any 10 b t _ _ HE.out.rb).mono ?_
              rintro e w4 ⟨rfl, hr4, hg4⟩
              have HE4 := Lib.hid (HE.out.grown hbw hX0 hg4 hr4)
              have HF4 := Lib.hid (HE4.out.fr.low HOWN.out hbw)
              clear hr4 hg4
              cases hh : hasP 10 t with
              | false =>
                have hno : ruleP s = none := by rw [HEND.out, hh]; rfl
                have HNO := Lib.hid hno
                clear hno hh
                go_wp2_with fail
                go_ret
                exact rule_no HNO.out HF4.out
              | true =>
                have hsk : skipP 10 t = t.tail := by unfold skipP; rw [hh]; rfl
                have d0 : w4.cell? ⟨X, 0, none⟩ = some (.int .i64 op) := by rw [cell_of_row w4 X 0 _ _ _ HE4.out.xb]; rfl
                have d1 : w4.cell? ⟨X, 1, none⟩ = some (.slice ia its.length ic) := by rw [cell_of_row w4 X 1 _ _ _ HE4.out.xb]; rfl
                have HH := Lib.hid hh
                have HSK := Lib.hid hsk
                clear hh hsk
                go_wp2_with fail
                refine (f43_any (op, its) _ _ (items_own HE4.out.own)).mono ?_
                rintro e w5 ⟨rfl, hb5⟩
                have HE5 := Lib.hid (HE4.out.below hbw hX0 hb5)
                have HF5 := Lib.hid (HE5.out.fr.low HOWN.out hbw)
                clear hb5 d0 d1
                cases hrb : ruleB (op, its) with
                | false =>
                  have hno : ruleP s = none := by rw [HEND.out, hrb]; simp
                  have HNO := Lib.hid hno
                  clear hno hrb
                  go_wp2_with fail
                  go_ret
                  exact rule_no HNO.out HF5.out
                | true =>
                  have d0 : w5.cell? ⟨X, 0, none⟩ = some (.int .i64 op) := by rw [cell_of_row w5 X 0 _ _ _ HE5.out.xb]; rfl
                  have d1 : w5.cell? ⟨X, 1, none⟩ = some (.slice ia its.length ic) := by rw [cell_of_row w5 X 1 _ _ _ HE5.out.xb]; rfl
                  have HRB5 := Lib.hid hrb
                  clear hrb
                  go_wp2_with fail
                  refine (f46_any (op, its) _ _ (items_own HE5.out.own) HRB5.out).mono ?_
                  rintro e w6 ⟨rfl, hb6⟩
                  have HE6 := Lib.hid (HE5.out.below hbw hX0 hb6)
                  have HF6 := Lib.hid (HE6.out.fr.low HOWN.out hbw)
                  have hpre := fun W => Tryd.strings_HasPrefix (bsA s) (bsA (lineS (op, its))) W
                  rw [bsA_data, bsA_data] at hpre
                  have HPRE := Lib.hid hpre
                  clear hb6 d0 d1 hpre
                  go_wp2_with fail
                  refine (HPRE.out _).mono ?_
                  rintro e w7 ⟨rfl, hw7⟩
                  rw [hw7]
                  cases hpx : Lib.hasPrefix s (lineS (op, its)) with
                  | false =>
                    have hpx' : (lineS (op, its)).isPrefixOf s = false := hpx
                    have hno : ruleP s = none := by rw [HEND.out, hpx']; simp
                    have HNO := Lib.hid hno
                    clear hno hpx hpx' hw7
                    go_wp2_with fail
                    go_ret
                    exact rule_no HNO.out HF6.out
                  | true =>
                    have hpx' : (lineS (op, its)).isPrefixOf s = true := hpx
                    have hyes : ruleP s = some ((op, its), t.tail) := by rw [HEND.out, hpx', HH.out, HRB5.out]; rfl
                    have HYES := Lib.hid hyes
                    clear hyes hpx hpx' hw7
                    go_wp2_with fail
                    go_ret
                    unfold RulePost
                    rw [HYES.out]
                    refine ⟨rfl, .slice va (rs.length + 1) vc, .slice ia its.length ic, ?_, ?_, own_base HE6.out.own hbw, HE6.out.fr⟩
                    · rw [← HSK.out]; exact HE6.out.rb
                    · rw [rvCells_snoc]; exact HE6.out.row
end Go.Proofs.YteilaajjpjhijaaDoor
