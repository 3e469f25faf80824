/- Walk of Word. -/
import Derived.Test.YteilaajjpjhijaaDoorXe
namespace Go.Proofs.YteilaajjpjhijaaDoor
open Go.RowKit PSpec

/-- append of one integer onto a row of the call's own, saying where the row may come to lie -/
theorem wpList_appJ {ops : Array Oper} {rest : List Oper} {o : Oper} {a : Act} {w : World} {Q : Exit → Act → World → Prop} (hgd : o.guard = none) (s x : Operand)
    (ho : o.op = .call { callee := .builtin .append, args := #[s, x], argTypes := #[26, 26] })
    (base : Nat) (v : Value) (n : Nat) (xs : List Value) (hs : a.eval s = v) (hown : w.ownsRow base 3 1 v n xs)
    (g : Nat) (y : Value) (hx : a.eval x = .slice (some ⟨g, 0, none⟩) 1 1) (hc : w.cell? ⟨g, 0, none⟩ = some y) (h1 : y.oneCell' = true)
    (hn : n ≤ 1000000000000) (hbase : base ≤ w.heap.size)
    (h : ∀ v' w', w'.ownsRow base 3 1 v' (n + 1) (xs ++ [y]) → w.grownBy w' v.ownBlock → (v'.ownBlock = v.ownBlock ∨ v'.ownBlock = some w.heap.size) → wpList Tryd.prog ops Q rest (a.put o.dst v') w') : wpList Tryd.prog ops Q (o :: rest) a w := by
  obtain ⟨i0, HI⟩ := Tryd.parts3
  refine wpList_append_own_at w hgd s x 26 ho base 3 i0 (.int .i64 0) 1 8 Tryd.underlying26 HI.out.1 HI.out.2.1 HI.out.2.2.1 HI.out.2.2.2 rfl (by decide) v n xs hs hown ⟨g, 0, none⟩ 1 1 [y] hx rfl ?_ ?_ ?_ ?_ hbase ?_
  · intro j u hu
    match j with
    | 0 =>
      obtain rfl : y = u := by simpa using hu
      rw [Addr.add_mid, Nat.zero_add]; exact hc
    | j + 1 => simp at hu
  · intro u hu
    obtain rfl : u = y := by simpa using hu
    exact h1
  · unfold maxLen; omega
  · omega
  · exact fun v' w' h2 h3 _ h5 => h v' w' h2 h3 h5
theorem own_shape {w : World} {base n : Nat} {v : Value} {xs : List Value} (h : w.ownsRow base 3 1 v n xs) : ∃ a c, v = .slice a n c := by
  rcases h.2 with ⟨rfl, e⟩ | ⟨g, c, cur, rfl, _⟩
  · subst e; exact ⟨_, _, rfl⟩
  · exact ⟨_, _, rfl⟩
theorem four_I64 {x : Int} (h : Four x) : I64 x := by unfold Four at h; unfold I64; constructor <;> omega
def WordPost (w : World) (e : Ending) (w' : World) : Prop := ∃ v m, e = .returned v ∧ Ints w' v m ∧ (∀ x, x ∈ m → Four x) ∧ m.length ≤ 12 ∧ Below w.heap.size w w'
theorem valid_rule {p : Pr} (h : validB p = true) {k : Nat} {r : Rl} (hk : p[k]? = some r) : r.2.length ≤ 6 ∧ ∀ x, x ∈ r.2 → 1 ≤ x.2.2 ∧ x.2.2 ≤ 9 := by
  unfold validB at h
  simp only [Bool.and_eq_true, decide_eq_true_eq, List.all_eq_true] at h
  have := h.2 r (List.mem_of_getElem? hk)
  unfold ruleB at this
  simp only [Bool.and_eq_true, decide_eq_true_eq, List.all_eq_true] at this
  refine ⟨this.1.2, fun x hx => ?_⟩
  have := this.2 x hx
  unfold itB at this
  simp only [Bool.and_eq_true, decide_eq_true_eq] at this
  omega
theorem ints_get {w : World} {la : Option Addr} {lc : Nat} {l : List Int} (h : Ints w (.slice la l.length lc) l) (hl : 0 < l.length) :
    ∃ b o, la = some ⟨b, o, none⟩ ∧ ∀ i x, l[i]? = some x → w.cell? ⟨b, o + i, none⟩ = some (.int .i64 x) := by
  obtain ⟨a, c, e, _, _, _, h4⟩ := h
  obtain ⟨rfl, rfl⟩ : la = a ∧ lc = c := by simpa using e
  exact h4 (by rintro rfl; simp at hl)

set_option maxRecDepth 100000 in
set_option maxHeartbeats 4000000 in
theorem f14_any (pv lv : Value) (p : Pr) (op : Int) (l : List Int) (w : World) (hp : Rules w pv p) (hl : Ints w lv l) (hv : validB p = true) (h4 : Ops4 p) :
    Calls Tryd.prog 14 #[.agg #[pv], .int .i64 op, lv] w (WordPost w) := by
  have b0 : Below w.heap.size w (w.alloc (.cells #[pv] 24)) := (Below.refl _ _).alloc (Nat.le_refl _) _
  have HP := Lib.hid (hp.below b0)
  have HL := Lib.hid (hl.below b0)
  have HL64 := Lib.hid hl.i64
  have B0 := Lib.hid b0
  have HV := Lib.hid hv
  have H4 := Lib.hid h4
  obtain ⟨la, lc, rfl, lz1, lz2, lz3, lz4⟩ := hl
  obtain ⟨pa, pc, rfl, pz1, pz2, pz3⟩ := hp
  unfold maxLen at lz2 pz2
  clear b0 lz3 lz4 pz3 hv h4
  go_enter Tryd.func14, Tryd.ntmps14
  go_wp2_with fail
  go_loopw [8, 9] (fun vz i wr => ∃ (z : Int) (k : Nat), k ≤ p.length ∧ i = .int .i64 k ∧ vz = .int .i64 z ∧ -1 ≤ z ∧ z < p.length ∧ Below (w.heap.size + 1) (w.alloc (.cells #[.slice pa p.length pc] 24)) wr) (fun _ i _ => p.length - (intOf i).toNat)
  case atStart => exact ⟨-1, 0, Nat.zero_le _, rfl, rfl, by omega, by omega, Below.refl _ _⟩
  case round =>
    obtain ⟨z, k, hk, rfl, rfl, hz1, hz2, hb⟩ := hrel
    have b1 : wr.cell? ⟨w.heap.size, 0, none⟩ = some (.slice pa p.length pc) := by rw [hb.cell (p := ⟨w.heap.size, 0, none⟩) (by simp)]; go_simp
    have HB := Lib.hid hb
    clear hb
    by_cases hlt : k < p.length
    · obtain ⟨r, hr⟩ := get_some p k hlt
      obtain ⟨a', cap', e, _, _, hrr⟩ := HP.out
      obtain ⟨rfl, rfl⟩ : pa = a' ∧ pc = cap' := by simpa using e
      obtain ⟨g, o, rfl, hc⟩ := hrr (by rintro rfl; simp at hlt)
      obtain ⟨c0, iv, c1, _⟩ := (hc k r hr).keep (keeps_of_below (HB.out.mono (by simp)))
      obtain ⟨ro, ri⟩ := r
      simp only at c0
      clear hc hr hrr e c1
      have k0 : (0 : Int) ≤ (k : Int) := by omega
      have k1 : (k : Int) < (p.length : Int) := by omega
      by_cases ho : ro = op
      · subst ho
        have d1 : (ro == ro) = true := by simp
        by_cases hz : z < 0
        · have d2 : decide (z < 0) = true := decide_eq_true hz
          go_wp2_with fail
          exact ⟨⟨k, k + 1, by omega, congrArg _ (by omega), rfl, by omega, by omega, HB.out⟩, by simp only [intOf]; omega⟩
        · have d2 : decide (z < 0) = false := decide_eq_false hz
          by_cases hll : 0 < l.length
          · obtain ⟨lb, lo, rfl, hlc⟩ := ints_get HL.out hll
            obtain ⟨x0, hx0⟩ := get_some l 0 hll
            have cl := keeps_of_below (HB.out.mono (by simp)) _ _ (hlc 0 x0 hx0)
            rw [Nat.add_zero] at cl
            have HX0 : Hid (I64 x0) := HL64.out x0 (List.mem_of_getElem? hx0)
            have hl0 : (0 : Int) < (l.length : Int) := by omega
            clear hlc hx0
            obtain ⟨q, hq⟩ : ∃ q, (pickZ x0 2 == 1) = q := ⟨_, rfl⟩
            cases q
            · go_wp2_with (go_at_call 29; refine (f29_any _ 2 _ HX0.out (by decide) (by decide)).mono ?_; rintro e w1 ⟨rfl, rfl⟩)
              exact ⟨⟨z, k + 1, by omega, congrArg _ (by omega), rfl, by omega, by omega, HB.out⟩, by simp only [intOf]; omega⟩
            · go_wp2_with (go_at_call 29; refine (f29_any _ 2 _ HX0.out (by decide) (by decide)).mono ?_; rintro e w1 ⟨rfl, rfl⟩)
              exact ⟨⟨k, k + 1, by omega, congrArg _ (by omega), rfl, by omega, by omega, HB.out⟩, by simp only [intOf]; omega⟩
          · obtain rfl : l = [] := by simpa using hll
            go_wp2_with fail
            exact ⟨⟨z, k + 1, by omega, congrArg _ (by omega), rfl, by omega, by omega, HB.out⟩, by simp only [intOf]; omega⟩
      · have d1 : (ro == op) = false := by simpa using ho
        go_wp2_with fail
        exact ⟨⟨z, k + 1, by omega, congrArg _ (by omega), rfl, by omega, by omega, HB.out⟩, by simp only [intOf]; omega⟩
    · obtain rfl : k = p.length := by omega
      go_wp2_with fail
      clear b1
      go_loopw [7, 10, 11] (fun v va vi wr => ∃ (xs : List Int) (t j : Nat), va = .int .i64 t ∧ vi = .int .i64 j ∧ j ≤ 6 ∧ t ≤ 9 * j ∧ wr.ownsRow (w.heap.size + 1) 3 1 v xs.length (xs.map (Value.int .i64)) ∧ (∀ x, x ∈ xs → Four x) ∧ xs.length ≤ 12 ∧ Below (w.heap.size + 1) (w.alloc (.cells #[.slice pa p.length pc] 24)) wr) (fun _ _ i _ => 6 - (intOf i).toNat)
      case atStart => exact ⟨[], 0, 0, rfl, rfl, by omega, by omega, ⟨rfl, .inl ⟨rfl, rfl⟩⟩, by simp, by simp, HB.out⟩
      case round =>
        obtain ⟨xs, t, j, rfl, rfl, hj, ht, hown, hx4, hxl, hb⟩ := hrel
        have b1 : wr.cell? ⟨w.heap.size, 0, none⟩ = some (.slice pa p.length pc) := by rw [hb.cell (p := ⟨w.heap.size, 0, none⟩) (by simp)]; go_simp
        have hsz : w.heap.size + 1 ≤ wr.heap.size := by have := hb.size; simpa using this
        have HB2 := Lib.hid hb
        have HO := Lib.hid hown
        have HX4 := Lib.hid hx4
        clear hb hown hx4
        by_cases hz : 0 ≤ z
        · obtain ⟨n, rfl⟩ : ∃ n : Nat, z = n := ⟨z.toNat, by omega⟩
          have hn : n < p.length := by omega
          obtain ⟨r, hr⟩ := get_some p n hn
          obtain ⟨a', cap', e, _, _, hrr⟩ := HP.out
          obtain ⟨rfl, rfl⟩ : pa = a' ∧ pc = cap' := by simpa using e
          obtain ⟨g, o, rfl, hc⟩ := hrr (by rintro rfl; simp at hn)
          obtain ⟨_, iv, c1, ci⟩ := (hc n r hr).keep (keeps_of_below (HB2.out.mono (by simp)))
          obtain ⟨hr6, hr9⟩ := valid_rule HV.out hr
          have hr4 := H4.out r (List.mem_of_getElem? hr)
          obtain ⟨ro, ri⟩ := r
          obtain ⟨ia, ic, rfl, i1, i2, i3⟩ : Items wr iv ri := ci
          unfold maxLen at i2
          simp only at c1 hr6 hr9 hr4
          have n0 : (0 : Int) ≤ (n : Int) := by omega
          have n1 : (n : Int) < (p.length : Int) := by omega
          have hR9 := Lib.hid hr9
          have hR4 := Lib.hid hr4
          have I3 := Lib.hid i3
          clear hc hr hrr e hr9 hr4 i3
          by_cases hj2 : j < ri.length
          · have dj : decide ((j : Int) < (ri.length : Int)) = true := by simp; omega
            have j0 : (0 : Int) ≤ (j : Int) := by omega
            have j1 : (j : Int) < (ri.length : Int) := by omega
            obtain ⟨x, hx⟩ := get_some ri j hj2
            obtain ⟨ib, io, rfl, hci⟩ := I3.out (by rintro rfl; simp at hj2)
            obtain ⟨s0, s1, s2⟩ := hci j x hx
            have hxm := List.mem_of_getElem? hx
            have hx1 := hR9.out x hxm
            have hxf := hR4.out x hxm
            obtain ⟨xa, xb, xc⟩ := x
            simp only at s0 s1 s2 hx1 hxf
            clear hci hx hxm
            go_wp2_with fail
            obtain ⟨wo, rfl⟩ : ∃ wo : World, wo = wr := ⟨_, rfl⟩
            go_loopw [7, 10, 13] (fun v va vi wr => ∃ (xs : List Int) (t i : Nat), va = .int .i64 t ∧ vi = .int .i64 i ∧ (i : Int) ≤ xc ∧ t ≤ 9 * j + i ∧ wr.ownsRow (w.heap.size + 1) 3 1 v xs.length (xs.map (Value.int .i64)) ∧ (∀ x, x ∈ xs → Four x) ∧ xs.length ≤ 12 ∧ Below (w.heap.size + 1) (w.alloc (.cells #[.slice (some ⟨g, o, none⟩) p.length pc] 24)) wr ∧ wr.cell? ⟨wo.heap.size, 0, none⟩ = some (.int .i64 xa) ∧ wr.cell? ⟨wo.heap.size, 2, none⟩ = some (.int .i64 xc) ∧ v.ownBlock ≠ some wo.heap.size ∧ wo.heap.size < wr.heap.size) (fun _ _ i _ => xc.toNat - (intOf i).toNat)
            case atStart => exact ⟨xs, t, 0, rfl, rfl, by omega, by omega, HO.out.alloc _, HX4.out, hxl, HB2.out.alloc hsz _, by go_simp, by go_simp, fun e => absurd (HO.out.lt _ e).2 (by omega), by simp⟩
            case round =>
              obtain ⟨xs, t, i, rfl, rfl, hi, hti, hown, hx43, hxl3, hb, e0, e2, hne, hwo⟩ := hrel
              obtain ⟨va, vc, rfl⟩ := own_shape hown
              have hsz3 : w.heap.size + 1 ≤ wr.heap.size := by have := hb.size; simpa using this
              have HB3 := Lib.hid hb
              have HO3 := Lib.hid hown
              have HX43 := Lib.hid hx43
              have HNE := Lib.hid hne
              clear hb hown hx43 hne
              by_cases hix : (i : Int) < xc
              · by_cases h12 : xs.length < 12
                · by_cases htl : t + 1 < l.length
                  · obtain ⟨lb, lo, rfl, hlc⟩ := ints_get HL.out (by omega)
                    obtain ⟨y, hy⟩ := get_some l (t + 1) htl
                    have cl := keeps_of_below (HB3.out.mono (by simp)) _ _ (hlc (t + 1) y hy)
                    have HY0 : Hid (I64 y) := HL64.out y (List.mem_of_getElem? hy)
                    have t0 : (0 : Int) ≤ (t : Int) + 1 := by omega
                    have t1 : (t : Int) + 1 < (l.length : Int) := by omega
                    clear hlc hy
                    by_cases hq : 0 < pickZ y 3
                    · go_wp2_with (first
                        | (go_at_call 29; refine (f29_any _ 3 _ HY0.out (by decide) (by decide)).mono ?_; rintro e w1 ⟨rfl, rfl⟩)
                        | (at_builtin; refine wpList_appJ rfl (.tmp 96) (.tmp 99) rfl (w.heap.size + 1) _ _ _ rfl (HO3.out.alloc _) wr.heap.size (.int .i64 xa) rfl (cell_one _ _ _) rfl (Nat.le_trans hxl3 (by decide)) (Nat.le_trans hsz3 (le_alloc _ _)) ?_; intro v1 w1 hown1 hg1 hor))
                      have hB4 : Below (w.heap.size + 1) (w.alloc (.cells #[.slice (some ⟨g, o, none⟩) p.length pc] 24)) w1 := (HB3.out.alloc hsz3 _).grown hg1 (Nat.le_trans hsz3 (le_alloc _ _)) (fun j e => (HO3.out.lt j e).1)
                      have far : ∀ o z, wr.cell? ⟨wo.heap.size, o, none⟩ = some z → w1.cell? ⟨wo.heap.size, o, none⟩ = some z := fun o z hz => hg1.cell (keeps_of_below ((Below.refl _ _).alloc (Nat.le_refl _) _) _ _ hz) (fun e => HNE.out (by first | exact e | exact e.symm))
                      have hne1 : v1.ownBlock ≠ some wo.heap.size := by
                        rcases hor with e | e
                        · rw [e]; exact HNE.out
                        · intro h
                          have := Option.some.inj (e.symm.trans h)
                          rw [World.size_alloc] at this; omega
                      have hs1 : wo.heap.size < w1.heap.size := Nat.lt_of_lt_of_le hwo (Nat.le_trans (le_alloc _ _) hg1.size)
                      exact ⟨⟨xs ++ [xa], t + 1, i + 1, by simp, by simp, by omega, by omega, by simpa using hown1, fun y hy => by
                        rcases List.mem_append.1 hy with hy | hy
                        · exact HX43.out y hy
                        · rw [List.mem_singleton.1 hy]; exact hxf, by simp; omega, hB4, far 0 _ e0, far 2 _ e2, hne1, hs1⟩, by simp only [intOf]; omega⟩
                    · go_wp2_with (first
                        | (go_at_call 29; refine (f29_any _ 3 _ HY0.out (by decide) (by decide)).mono ?_; rintro e w1 ⟨rfl, rfl⟩))
                      exact ⟨⟨xs, t + 1, i + 1, by simp, by simp, by omega, by omega, HO3.out, HX43.out, hxl3, HB3.out, e0, e2, HNE.out, hwo⟩, by simp only [intOf]; omega⟩
                  · have t1 : decide ((t : Int) + 1 < (l.length : Int)) = false := by simp; omega
                    go_wp2_with fail
                    exact ⟨⟨xs, t + 1, i + 1, by simp, by simp, by omega, by omega, HO3.out, HX43.out, hxl3, HB3.out, e0, e2, HNE.out, hwo⟩, by simp only [intOf]; omega⟩
                · obtain h12' : xs.length = 12 := by omega
                  go_wp2_with fail
                  exact ⟨⟨xs, t, j + 1, rfl, by simp, by omega, by omega, HO3.out, HX43.out, hxl3, HB3.out⟩, by simp only [intOf]; omega⟩
              · go_wp2_with fail
                exact ⟨⟨xs, t, j + 1, rfl, by simp, by omega, by omega, HO3.out, HX43.out, hxl3, HB3.out⟩, by simp only [intOf]; omega⟩
          · have dj : decide ((j : Int) < (ri.length : Int)) = false := by simp; omega
            have d19 : decide ((n : Int) < 0) = false := by simp
            by_cases hll : 0 < l.length
            · obtain ⟨lb, lo, rfl, hlc⟩ := ints_get HL.out hll
              obtain ⟨x0, hx0⟩ := get_some l 0 hll
              have cl := keeps_of_below (HB2.out.mono (by simp)) _ _ (hlc 0 x0 hx0)
              rw [Nat.add_zero] at cl
              have HX0 : Hid (I64 x0) := HL64.out x0 (List.mem_of_getElem? hx0)
              have hl0 : (0 : Int) < (l.length : Int) := by omega
              clear hlc hx0
              obtain ⟨q, hq⟩ : ∃ q, (pickZ x0 9 == 0) = q := ⟨_, rfl⟩
              cases q
              · go_wp2_with (go_at_call 29; refine (f29_any _ 9 _ HX0.out (by decide) (by decide)).mono ?_; rintro e w1 ⟨rfl, rfl⟩)
                go_ret
                exact ⟨_, xs, rfl, ints_own HO.out (fun y hy => four_I64 (HX4.out y hy)), HX4.out, hxl, B0.out.trans (HB2.out.mono (by omega))⟩
              · go_wp2_with (go_at_call 29; refine (f29_any _ 9 _ HX0.out (by decide) (by decide)).mono ?_; rintro e w1 ⟨rfl, rfl⟩)
                go_loopw [7, 14] (fun v vi wr => ∃ (xs : List Int) (i : Nat), vi = .int .i64 i ∧ i ≤ 5 ∧ wr.ownsRow (w.heap.size + 1) 3 1 v xs.length (xs.map (Value.int .i64)) ∧ (∀ x, x ∈ xs → Four x) ∧ xs.length ≤ 12 ∧ Below (w.heap.size + 1) (w.alloc (.cells #[.slice (some ⟨g, o, none⟩) p.length pc] 24)) wr) (fun _ i _ => 5 - (intOf i).toNat)
                case atStart => exact ⟨xs, 0, rfl, by omega, HO.out, HX4.out, hxl, HB2.out⟩
                case round =>
                  obtain ⟨xs, i, rfl, hi, hown, hx4, hxl, hb⟩ := hrel
                  obtain ⟨va, vc, rfl⟩ := own_shape hown
                  have hsz3 : w.heap.size + 1 ≤ wr.heap.size := by have := hb.size; simpa using this
                  have HB2 := Lib.hid hb
                  have HO := Lib.hid hown
                  have HX4 := Lib.hid hx4
                  clear hb hown hx4
                  by_cases hil : i < l.length
                  · by_cases hi5 : i < 5
                    · by_cases h12 : xs.length < 12
                      · obtain ⟨lb2, lo2, e2, hlc⟩ := ints_get HL.out (by omega)
                        obtain ⟨rfl, rfl⟩ : lb = lb2 ∧ lo = lo2 := by simpa using e2
                        obtain ⟨y, hy⟩ := get_some l i hil
                        have cl := keeps_of_below (HB2.out.mono (by simp)) _ _ (hlc i y hy)
                        have HY0 : Hid (I64 y) := HL64.out y (List.mem_of_getElem? hy)
                        have hpf : Four (pickZ y 4) := by unfold Four pickZ; split <;> omega
                        have HPF := Lib.hid hpf
                        have i0 : (0 : Int) ≤ (i : Int) := by omega
                        have i1 : (i : Int) < (l.length : Int) := by omega
                        clear hlc hy hpf
                        go_wp2_with (first
                          | (go_at_call 29; refine (f29_any _ 4 _ HY0.out (by decide) (by decide)).mono ?_; rintro e w1 ⟨rfl, rfl⟩)
                          | (at_builtin; refine wpList_appJ rfl (.tmp 130) (.tmp 136) rfl (w.heap.size + 1) _ _ _ rfl (HO.out.alloc _) wr.heap.size (.int .i64 (pickZ y 4)) rfl (cell_one _ _ _) rfl (Nat.le_trans hxl (by decide)) (Nat.le_trans hsz3 (le_alloc _ _)) ?_; intro v1 w1 hown1 hg1 hor))
                        have hB4 : Below (w.heap.size + 1) (w.alloc (.cells #[.slice (some ⟨g, o, none⟩) p.length pc] 24)) w1 := (HB2.out.alloc hsz3 _).grown hg1 (Nat.le_trans hsz3 (le_alloc _ _)) (fun j e => (HO.out.lt j e).1)
                        exact ⟨⟨xs ++ [pickZ y 4], i + 1, by simp, by omega, by simpa using hown1, fun y hy => by
                          rcases List.mem_append.1 hy with hy | hy
                          · exact HX4.out y hy
                          · rw [List.mem_singleton.1 hy]; exact HPF.out, by simp; omega, hB4⟩, by simp only [intOf]; omega⟩
                      · obtain h12' : xs.length = 12 := by omega
                        have hob := HO.out
                        rw [h12'] at hob
                        have HOB := Lib.hid hob
                        clear hob
                        go_wp2_with fail
                        go_ret
                        exact ⟨_, xs, rfl, ints_own HOB.out (fun y hy => four_I64 (HX4.out y hy)), HX4.out, hxl, B0.out.trans (HB2.out.mono (by omega))⟩
                    · obtain rfl : i = 5 := by omega
                      go_wp2_with fail
                      go_ret
                      exact ⟨_, xs, rfl, ints_own HO.out (fun y hy => four_I64 (HX4.out y hy)), HX4.out, hxl, B0.out.trans (HB2.out.mono (by omega))⟩
                  · have hil2 : ¬ ((i : Int) < (l.length : Int)) := by omega
                    go_wp2_with fail
                    go_ret
                    exact ⟨_, xs, rfl, ints_own HO.out (fun y hy => four_I64 (HX4.out y hy)), HX4.out, hxl, B0.out.trans (HB2.out.mono (by omega))⟩
            · obtain rfl : l = [] := by simpa using hll
              go_wp2_with fail
              go_ret
              exact ⟨_, xs, rfl, ints_own HO.out (fun y hy => four_I64 (HX4.out y hy)), HX4.out, hxl, B0.out.trans (HB2.out.mono (by omega))⟩
        · have d19 : decide (z < 0) = true := decide_eq_true (by omega)
          have d10 : decide (0 ≤ z) = false := decide_eq_false hz
          go_wp2_with fail
          go_loopw [7, 14] (fun v vi wr => ∃ (xs : List Int) (i : Nat), vi = .int .i64 i ∧ i ≤ 5 ∧ wr.ownsRow (w.heap.size + 1) 3 1 v xs.length (xs.map (Value.int .i64)) ∧ (∀ x, x ∈ xs → Four x) ∧ xs.length ≤ 12 ∧ Below (w.heap.size + 1) (w.alloc (.cells #[.slice pa p.length pc] 24)) wr) (fun _ i _ => 5 - (intOf i).toNat)
          case atStart => exact ⟨xs, 0, rfl, by omega, HO.out, HX4.out, hxl, HB2.out⟩
          case round =>
            obtain ⟨xs, i, rfl, hi, hown, hx4, hxl, hb⟩ := hrel
            obtain ⟨va, vc, rfl⟩ := own_shape hown
            have hsz3 : w.heap.size + 1 ≤ wr.heap.size := by have := hb.size; simpa using this
            have HB2 := Lib.hid hb
            have HO := Lib.hid hown
            have HX4 := Lib.hid hx4
            clear hb hown hx4
            by_cases hil : i < l.length
            · by_cases hi5 : i < 5
              · by_cases h12 : xs.length < 12
                · obtain ⟨lb, lo, rfl, hlc⟩ := ints_get HL.out (by omega)
                  obtain ⟨y, hy⟩ := get_some l i hil
                  have cl := keeps_of_below (HB2.out.mono (by simp)) _ _ (hlc i y hy)
                  have HY0 : Hid (I64 y) := HL64.out y (List.mem_of_getElem? hy)
                  have hpf : Four (pickZ y 4) := by unfold Four pickZ; split <;> omega
                  have HPF := Lib.hid hpf
                  have i0 : (0 : Int) ≤ (i : Int) := by omega
                  have i1 : (i : Int) < (l.length : Int) := by omega
                  clear hlc hy hpf
                  go_wp2_with (first
                    | (go_at_call 29; refine (f29_any _ 4 _ HY0.out (by decide) (by decide)).mono ?_; rintro e w1 ⟨rfl, rfl⟩)
                    | (at_builtin; refine wpList_appJ rfl (.tmp 130) (.tmp 136) rfl (w.heap.size + 1) _ _ _ rfl (HO.out.alloc _) wr.heap.size (.int .i64 (pickZ y 4)) rfl (cell_one _ _ _) rfl (Nat.le_trans hxl (by decide)) (Nat.le_trans hsz3 (le_alloc _ _)) ?_; intro v1 w1 hown1 hg1 hor))
                  have hB4 : Below (w.heap.size + 1) (w.alloc (.cells #[.slice pa p.length pc] 24)) w1 := (HB2.out.alloc hsz3 _).grown hg1 (Nat.le_trans hsz3 (le_alloc _ _)) (fun j e => (HO.out.lt j e).1)
                  exact ⟨⟨xs ++ [pickZ y 4], i + 1, by simp, by omega, by simpa using hown1, fun y hy => by
                    rcases List.mem_append.1 hy with hy | hy
                    · exact HX4.out y hy
                    · rw [List.mem_singleton.1 hy]; exact HPF.out, by simp; omega, hB4⟩, by simp only [intOf]; omega⟩
                · obtain h12' : xs.length = 12 := by omega
                  have hob := HO.out
                  rw [h12'] at hob
                  have HOB := Lib.hid hob
                  clear hob
                  go_wp2_with fail
                  go_ret
                  exact ⟨_, xs, rfl, ints_own HOB.out (fun y hy => four_I64 (HX4.out y hy)), HX4.out, hxl, B0.out.trans (HB2.out.mono (by omega))⟩
              · obtain rfl : i = 5 := by omega
                go_wp2_with fail
                go_ret
                exact ⟨_, xs, rfl, ints_own HO.out (fun y hy => four_I64 (HX4.out y hy)), HX4.out, hxl, B0.out.trans (HB2.out.mono (by omega))⟩
            · have hil2 : ¬ ((i : Int) < (l.length : Int)) := by omega
              go_wp2_with fail
              go_ret
              exact ⟨_, xs, rfl, ints_own HO.out (fun y hy => four_I64 (HX4.out y hy)), HX4.out, hxl, B0.out.trans (HB2.out.mono (by omega))⟩
end Go.Proofs.YteilaajjpjhijaaDoor
