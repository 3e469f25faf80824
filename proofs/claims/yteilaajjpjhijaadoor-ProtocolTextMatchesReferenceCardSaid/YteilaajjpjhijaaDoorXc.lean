/- Walk of the reference's Same. -/
import Derived.Test.YteilaajjpjhijaaDoorX1
import Derived.Laws.StructEq
import Derived.Deep.QuietTactic
import Derived.BigQuiet
namespace Go.Proofs.YteilaajjpjhijaaDoor
open Go.RowKit PSpec
theorem fields59 : Tryd.prog.underlying 59 = some (.struct (Tryd.prog.fieldsOf 59)) := by kernel_rfl
theorem stood59 : Tryd.prog.stoodInHeld 59 = false := by kernel_rfl
theorem guard59 : Tryd.prog.eqGuardType Tryd.prog.depth 59 = false := by kernel_rfl
theorem flds59 : (Tryd.prog.fieldsOf 59).toList = [{ name := "Op", type := 3, offset := 0, embedded := false, tag := "", pkgPath := "", byteOffset := 0 }, { name := "Least", type := 3, offset := 1, embedded := false, tag := "", pkgPath := "", byteOffset := 8 }, { name := "Most", type := 3, offset := 2, embedded := false, tag := "", pkgPath := "", byteOffset := 16 }] := by kernel_rfl
theorem eq_step (d : Nat) (a b : Int) (w : World) : (Op.equalIn (d + 1) 3 (.int .i64 a) (.int .i64 b)).run Tryd.prog w = .ok (a == b) w := run_equalIn_int w d 3 _ _ a b Tryd.underlying3
theorem part3 (xs : Array Value) (i : Nat) (v : Value) (h : xs[i]? = some v) (w : World) : (part 3 xs i).run Tryd.prog w = .ok v w := by
  unfold part
  rw [Sem.run_bind, Tryd.isAgg3, Result.andThen_ok, h]
  rfl
theorem run_neq59 (x y : It) (w : World) : (binOp .neq 59 (.agg #[.int .i64 x.1, .int .i64 x.2.1, .int .i64 x.2.2]) (.agg #[.int .i64 y.1, .int .i64 y.2.1, .int .i64 y.2.2])).run Tryd.prog w = .ok (.bool (decide (x ≠ y))) w := by
  obtain ⟨a, b, c⟩ := x
  obtain ⟨a', b', c'⟩ := y
  rw [run_neq_struct, run_equalIn_agg w 9999 59 _ _ fields59 stood59, flds59]
  have n1 : ("Op" ≠ "_") = True := by simp
  have n2 : ("Least" ≠ "_") = True := by simp
  have n3 : ("Most" ≠ "_") = True := by simp
  simp only [Op.eqFields, Sem.run_bind, Sem.run_ite, n1, n2, n3, if_true]
  rw [part3 _ 0 (.int .i64 a) rfl, Result.andThen_ok, part3 _ 0 (.int .i64 a') rfl, Result.andThen_ok, eq_step 9998, Result.andThen_ok]
  by_cases e1 : a = a'
  · subst e1
    rw [if_neg (by simp), part3 _ 1 (.int .i64 b) rfl, Result.andThen_ok, part3 _ 1 (.int .i64 b') rfl, Result.andThen_ok, eq_step 9998, Result.andThen_ok]
    by_cases e2 : b = b'
    · subst e2
      rw [if_neg (by simp), part3 _ 2 (.int .i64 c) rfl, Result.andThen_ok, part3 _ 2 (.int .i64 c') rfl, Result.andThen_ok, eq_step 9998, Result.andThen_ok]
      by_cases e3 : c = c'
      · subst e3
        rw [if_neg (by simp), Sem.run_pure, Result.andThen_ok]
        simp
      · rw [if_pos (by simpa using e3), Sem.run_pure, Result.andThen_ok]
        simp [e3]
    · rw [if_pos (by simpa using e2), Sem.run_pure, Result.andThen_ok]
      simp [e2]
  · rw [if_pos (by simpa using e1), Sem.run_pure, Result.andThen_ok]
    simp [e1]

theorem ne_at {α : Type} [DecidableEq α] {xs ys : List α} {k : Nat} {x y : α} (hx : xs[k]? = some x) (hy : ys[k]? = some y) (h : x ≠ y) : decide (xs = ys) = false := by
  simp only [decide_eq_false_iff_not]
  rintro rfl
  rw [hx] at hy
  exact h (by simpa using hy)
theorem ne_len {α : Type} [DecidableEq α] {xs ys : List α} (h : xs.length ≠ ys.length) : decide (xs = ys) = false := by
  simp only [decide_eq_false_iff_not]
  rintro rfl
  exact h rfl
theorem eq_all {α : Type} [DecidableEq α] {xs ys : List α} {k : Nat} (hl : xs.length ≤ k) (hm : ys.length ≤ k) (h : xs.take k = ys.take k) : xs = ys := by
  rw [List.take_of_length_le hl, List.take_of_length_le hm] at h
  exact h

def SamePost (p q : Pr) (w : World) (e : Ending) (w' : World) : Prop := e = .returned (.bool (decide (p = q))) ∧ Below w.heap.size w w'

set_option maxRecDepth 100000 in
set_option maxHeartbeats 4000000 in
theorem f26_any (v u : Value) (p q : Pr) (w : World) (hp : Rules w v p) (hq : Rules w u q) :
    Calls Tryd.prog 26 #[.agg #[v], .agg #[u]] w (SamePost p q w) := by
  obtain ⟨a, cap, rfl, h1, h2, h3⟩ := hp
  obtain ⟨a', cap', rfl, h1', h2', h3'⟩ := hq
  unfold maxLen at h2 h2'
  have bb : Below w.heap.size w ((w.alloc (.cells #[.slice a p.length cap] 24)).alloc (.cells #[.slice a' q.length cap'] 24)) := ((Below.refl _ _).alloc (Nat.le_refl _) _).alloc (by simp) _
  have BB := Lib.hid bb
  have H3 := Lib.hid h3
  have H3' := Lib.hid h3'
  clear bb h3 h3'
  by_cases hl : p.length = q.length
  · have hd1 : ((p.length : Int) != (q.length : Int)) = false := by simp [hl]
    have hd2 : (p.length != q.length) = false := by simp [hl]
    have hl1 : p.length ≤ q.length := by omega
    have hl2 : q.length ≤ p.length := by omega
    clear hl
    go_enter Tryd.func26, Tryd.ntmps26
    go_wp2_with fail
    go_loopw [5] (fun i wr => ∃ k : Nat, k ≤ p.length ∧ i = .int .i64 k ∧ p.take k = q.take k ∧ Below (w.heap.size + 2) ((w.alloc (.cells #[.slice a p.length cap] 24)).alloc (.cells #[.slice a' q.length cap'] 24)) wr) (fun i _ => p.length - (intOf i).toNat)
    case atStart => exact ⟨0, Nat.zero_le _, rfl, rfl, Below.refl _ _⟩
    case round =>
      obtain ⟨k, hk, rfl, ht, hb⟩ := hrel
      have b1 : wr.cell? ⟨w.heap.size, 0, none⟩ = some (.slice a p.length cap) := by rw [hb.cell (p := ⟨w.heap.size, 0, none⟩) (by simp)]; go_simp
      have b2 : wr.cell? ⟨w.heap.size + 1, 0, none⟩ = some (.slice a' q.length cap') := by rw [hb.cell (p := ⟨w.heap.size + 1, 0, none⟩) (by simp)]; go_simp
      have hsz : w.heap.size + 2 ≤ wr.heap.size := by have := hb.size; simpa using this
      have HT := Lib.hid ht
      have HB := Lib.hid hb
      have HBW : Hid (Below w.heap.size w wr) := BB.out.trans (hb.mono (by omega))
      clear ht hb
      by_cases hlt : k < p.length
      · obtain ⟨x, hx⟩ := get_some p k hlt
        obtain ⟨y, hy⟩ := get_some q k (by omega)
        obtain ⟨g, o, rfl, hc⟩ := H3.out (by rintro rfl; simp at hlt)
        obtain ⟨g', o', rfl, hc'⟩ := H3'.out (by rintro rfl; simp at hy)
        obtain ⟨c0, iv, c1, ci⟩ := (hc k x hx).keep (keeps_of_below HBW.out)
        obtain ⟨c0', iv', c1', ci'⟩ := (hc' k y hy).keep (keeps_of_below HBW.out)
        obtain ⟨xo, xi⟩ := x
        obtain ⟨yo, yi⟩ := y
        obtain ⟨ia, ic, rfl, i1, i2, i3⟩ : Items wr iv xi := ci
        obtain ⟨ja, jc, rfl, j1, j2, j3⟩ : Items wr iv' yi := ci'
        unfold maxLen at i2 j2
        have I3 := Lib.hid i3
        have J3 := Lib.hid j3
        have HX := Lib.hid hx
        have HY := Lib.hid hy
        simp only at c0 c0'
        clear hx hy hc hc' i3 j3
        have al : ∀ (o1 : Obj) (ad : Addr) (z : Value), wr.cell? ad = some z → (wr.alloc o1).cell? ad = some z := fun o1 ad z hz => keeps_of_below ((Below.refl _ _).alloc (Nat.le_refl _) _) _ _ hz
        have b2' := fun o1 => al o1 _ _ b2
        have c0'' := fun o1 => al o1 _ _ c0'
        have c1'' := fun o1 => al o1 _ _ c1'
        clear al
        by_cases ho : xo = yo
        · subst ho
          have d1 : (xo != xo) = false := by simp
          by_cases hil : xi.length = yi.length
          · have d2 : ((xi.length : Int) != (yi.length : Int)) = false := by simp [hil]
            have d3 : (xi.length != yi.length) = false := by simp [hil]
            have l1 : xi.length ≤ yi.length := by omega
            have l2 : yi.length ≤ xi.length := by omega
            clear hil
            go_wp2_with fail
            clear b2' c0'' c1'' c0 c1 c0' c1'
            obtain ⟨wo, rfl⟩ : ∃ wo : World, wo = wr := ⟨_, rfl⟩
            have hbo : Below wo.heap.size wo ((wo.alloc (.cells #[.int .i64 xo, .slice ia xi.length ic] 55)).alloc (.cells #[.int .i64 xo, .slice ja yi.length jc] 55)) := ((Below.refl _ _).alloc (Nat.le_refl _) _).alloc (by simp) _
            have HBO := Lib.hid hbo
            clear hbo
            go_loopw [8] (fun i w2 => ∃ m : Nat, m ≤ xi.length ∧ i = .int .i64 m ∧ xi.take m = yi.take m ∧ Below (wo.heap.size + 2) ((wo.alloc (.cells #[.int .i64 xo, .slice ia xi.length ic] 55)).alloc (.cells #[.int .i64 xo, .slice ja yi.length jc] 55)) w2) (fun i _ => xi.length - (intOf i).toNat)
            case atStart => exact ⟨0, Nat.zero_le _, rfl, rfl, Below.refl _ _⟩
            case round =>
              obtain ⟨m, hm, rfl, htm, hb2⟩ := hrel
              have x1 : wr.cell? ⟨wo.heap.size, 1, none⟩ = some (.slice ia xi.length ic) := by rw [hb2.cell (p := ⟨wo.heap.size, 1, none⟩) (by simp)]; go_simp
              have y1 : wr.cell? ⟨wo.heap.size + 1, 1, none⟩ = some (.slice ja yi.length jc) := by rw [hb2.cell (p := ⟨wo.heap.size + 1, 1, none⟩) (by simp)]; go_simp
              have HBF : Hid (Below wo.heap.size wo wr) := HBO.out.trans (hb2.mono (by omega))
              have HBF2 : Hid (Below (w.heap.size + 2) ((w.alloc (.cells #[.slice (some ⟨g, o, none⟩) p.length cap] 24)).alloc (.cells #[.slice (some ⟨g', o', none⟩) q.length cap'] 24)) wr) := HB.out.trans (HBF.out.mono (by omega))
              have hsz2 : wo.heap.size + 2 ≤ wr.heap.size := by have := hb2.size; simpa using this
              have HTM := Lib.hid htm
              have HB2 := Lib.hid hb2
              clear htm hb2
              by_cases hmt : m < xi.length
              · obtain ⟨z, hz⟩ := get_some xi m hmt
                obtain ⟨z', hz'⟩ := get_some yi m (by omega)
                obtain ⟨gi, oi, rfl, hci⟩ := I3.out (by rintro rfl; simp at hmt)
                obtain ⟨gj, oj, rfl, hcj⟩ := J3.out (by rintro rfl; simp at hz')
                obtain ⟨s0, s1, s2⟩ := (hci m z hz).keep (keeps_of_below HBF.out)
                obtain ⟨t0, t1, t2⟩ := (hcj m z' hz').keep (keeps_of_below HBF.out)
                have HZ := Lib.hid hz
                have HZ' := Lib.hid hz'
                have hneq := fun W => run_neq59 z z' W
                obtain ⟨za, zb, zc⟩ := z
                obtain ⟨za', zb', zc'⟩ := z'
                have hgd := guard59
                have m0 : (0 : Int) ≤ (m : Int) := by omega
                have m1 : (m : Int) < (xi.length : Int) := by omega
                have m2 : (m : Int) < (yi.length : Int) := by omega
                simp only at s0 s1 s2 t0 t1 t2
                clear hz hz' hci hcj
                by_cases hzz : (za, zb, zc) = (za', zb', zc')
                · have hdz : decide ((za, zb, zc) ≠ (za', zb', zc')) = false := by simpa using hzz
                  rw [hdz] at hneq
                  have HZZ := Lib.hid hzz
                  dsimp only at hneq
                  clear hzz hdz
                  go_wp2_with fail
                  go_quiet (fail)
                  go_wp2_with fail
                  exact ⟨⟨m + 1, by omega, by go_num, take_add _ _ _ _ HTM.out HZ.out (by rw [HZZ.out]; exact HZ'.out), below_drewN HB2.out _⟩, by simp [intOf]; omega⟩
                · have hdz : decide ((za, zb, zc) ≠ (za', zb', zc')) = true := decide_eq_true hzz
                  rw [hdz] at hneq
                  have HZZ := Lib.hid hzz
                  dsimp only at hneq
                  clear hzz hdz
                  go_wp2_with fail
                  go_quiet (fail)
                  go_wp2_with fail
                  go_ret
                  refine ⟨ret_bool (ne_at HX.out HY.out (fun e => ?_)).symm, below_drewN (HBW.out.trans (HBF.out.mono HBW.out.size)) _⟩
                  have e2 : xi = yi := by simpa using e
                  have h3 := HZ.out
                  rw [e2, HZ'.out] at h3
                  exact HZZ.out (by simpa using h3.symm)
              · have hxy : xi = yi := eq_all (k := m) (by omega) (by omega) HTM.out
                have HXY := Lib.hid hxy
                clear hxy
                go_wp2_with fail
                go_roundw
                case rel => exact ⟨k + 1, by omega, by go_num, take_add _ _ _ _ HT.out HX.out (by rw [HXY.out]; exact HY.out), HBF2.out⟩
                case measure => simp [intOf]; omega
          · have d2 : ((xi.length : Int) != (yi.length : Int)) = true := by simp; omega
            have d3 : (xi.length != yi.length) = true := by simpa using hil
            have HIL := Lib.hid hil
            clear hil
            go_wp2_with fail
            go_ret
            exact ⟨ret_bool (ne_at HX.out HY.out (fun e => HIL.out (by simp at e; rw [e]))).symm, (HBW.out.alloc (by omega) _).alloc (by simp; omega) _⟩
        · have d1 : (xo != yo) = true := by simpa using ho
          have HO := Lib.hid ho
          clear ho
          go_wp2_with fail
          go_ret
          exact ⟨ret_bool (ne_at HX.out HY.out (fun e => HO.out (by simp at e; exact e.1))).symm, (HBW.out.alloc (by omega) _).alloc (by simp; omega) _⟩
      · go_wp2_with fail
        go_ret
        exact ⟨ret_bool (by rw [eq_all (xs := p) (ys := q) (k := k) (by omega) (by omega) HT.out]; simp), HBW.out⟩
  · have hd1 : ((p.length : Int) != (q.length : Int)) = true := by simp; omega
    have hd2 : (p.length != q.length) = true := by simpa using hl
    have HL := Lib.hid hl
    clear hl
    go_enter Tryd.func26, Tryd.ntmps26
    go_wp2_with fail
    go_ret
    exact ⟨ret_bool (ne_len HL.out).symm, BB.out⟩
end Go.Proofs.YteilaajjpjhijaaDoor
