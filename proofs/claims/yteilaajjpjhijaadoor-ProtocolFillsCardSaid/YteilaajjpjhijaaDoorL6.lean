/- Walk of the law Fills. -/
import Derived.Test.YteilaajjpjhijaaDoorL7
namespace Go.Proofs.YteilaajjpjhijaaDoor
open Go.RowKit PSpec

def sliceLen : Value → Nat
  | .slice _ n _ => n
  | _ => 0
theorem good_of_ok {p : Pr} {op : Int} {ch m : List Int} (h : matchF p op ch = (m, 0)) : Good p op ch := by
  unfold matchF at h
  split at h
  · rename_i hc
    simp only [Bool.and_eq_true] at hc
    exact ⟨hc.1.1, hc.1.2, hc.2⟩
  · simp at h
theorem acc_of {p : Pr} {op : Int} {ch m : List Int} (h : matchF p op ch = (m, 0)) : accB p op ch = m.isEmpty := by
  unfold accB; rw [h]; simp
theorem good_len {p : Pr} {op : Int} {ch : List Int} (h : Good p op ch) : ch.length ≤ 30 := by
  have := h.c
  unfold childrenB at this
  simp only [Bool.and_eq_true, decide_eq_true_eq] at this
  exact this.2
theorem ints_tail1 {W : World} {b o c : Nat} {x : Int} {r : List Int} (h : Ints W (.slice (some ⟨b, o, none⟩) (r.length + 1) c) (x :: r)) (hc : c = 1) : Ints W (.slice (some ⟨b, o, none⟩) 0 0) r := by
  obtain ⟨a', c', e, h1, h2, h3, h4⟩ := h
  obtain ⟨rfl, rfl⟩ : some ⟨b, o, none⟩ = a' ∧ c = c' := by simpa using e
  obtain rfl : r = [] := by
    simp at h1
    exact List.length_eq_zero_iff.1 (by omega)
  exact ⟨_, 0, rfl, Nat.le_refl _, by decide, fun x hx => by simp at hx, fun h => absurd rfl h⟩
theorem ints_tail2 {W : World} {b o c : Nat} {x : Int} {r : List Int} (h : Ints W (.slice (some ⟨b, o, none⟩) (r.length + 1) c) (x :: r)) : Ints W (.slice (some ⟨b, o + 1, none⟩) r.length (c - 1)) r := by
  have := Ints.drop (xs := x :: r) (some ⟨b, o, none⟩) h 1 (by simp)
  simpa [Addr.add_mid] using this
theorem ints_first {W : World} {v : Value} {x : Int} {r : List Int} (h : Ints W v (x :: r)) : ∃ b o c, v = .slice (some ⟨b, o, none⟩) (r.length + 1) c ∧ W.cell? ⟨b, o, none⟩ = some (.int .i64 x) ∧ I64 x ∧ r.length + 1 ≤ c ∧ c ≤ maxLen := by
  obtain ⟨a, c, rfl, h1, h2, h3, h4⟩ := h
  obtain ⟨b, o, rfl, hc⟩ := h4 (by simp)
  exact ⟨b, o, c, rfl, hc 0 x rfl, h3 x (by simp), h1, h2⟩

set_option maxRecDepth 100000 in
set_option maxHeartbeats 8000000 in
theorem f6_any (xv yv : Value) (n : Nat) (op : Int) (ys : List Int) (w : World) (hlay : Lay w) (hx : Fours w xv n) (hy : Ints w yv ys) (ho : I64 op) :
    Calls Tryd.prog 6 #[xv, .int .i64 op, yv] w (LawPost w) := by
  have HX := Lib.hid hx
  have HY := Lib.hid hy
  have HLAY := Lib.hid hlay
  obtain ⟨o, ho4, _, hqo⟩ := pick_nat op 4 4 rfl ho (by decide) (by decide)
  have HQO := Lib.hid hqo
  clear hx hy hlay hqo ho
  go_enter Tryd.func6, Tryd.ntmps6
  go_wp2_with fail
  refine (f10_any w HLAY.out).mono ?_
  rintro e w1 ⟨rfl, hb1⟩
  have HB1 := Lib.hid hb1
  clear hb1
  go_wp2_with fail
  refine (f11_any xv n w1 (HX.out.below HB1.out)).mono ?_
  rintro e w2 ⟨pv, p, rfl, hp, hm, hb2⟩
  have hp' := hp
  obtain ⟨pa, pc, rfl, z1, z2, z3⟩ := hp'
  clear z1 z2 z3
  have bA : Below w2.heap.size w2 (w2.alloc (.cells #[.slice pa p.length pc] 24)) := (Below.refl _ _).alloc (Nat.le_refl _) _
  have HP := Lib.hid (hp.below bA)
  have HB2 : Hid (Below w.heap.size w (w2.alloc (.cells #[.slice pa p.length pc] 24))) := HB1.out.trans ((hb2.mono HB1.out.size).trans (bA.mono (Nat.le_trans HB1.out.size hb2.size)))
  have HM := Lib.hid hm
  clear hp hm hb2 bA
  go_wp2_with (go_at_call 13; with_reducible refine (HQO.out _).mono ?_; rintro e w3 ⟨rfl, rfl⟩)
  refine (f14_any (.slice pa p.length pc) yv p o ys _ HP.out (HY.out.below HB2.out) HM.out.valid HM.out.ops).mono ?_
  rintro e w4 ⟨lv, l, rfl, hl, hl4, hl12, hb4⟩
  have hl' := hl
  obtain ⟨la, lc, rfl, z1, z2, z3, z4⟩ := hl'
  clear z1 z2 z3 z4
  have HP4 := Lib.hid (HP.out.below hb4)
  have HB4 : Hid (Below w.heap.size w w4) := HB2.out.trans (hb4.mono HB2.out.size)
  have p4 : w4.cell? ⟨w2.heap.size, 0, none⟩ = some (.slice pa p.length pc) := keeps_of_below hb4 _ _ (by go_simp)
  have HL := Lib.hid hl
  have HL4 := Lib.hid hl4
  clear hl hb4 hl4 HP
  have g1 : Good p (o : Int) l := good_made HM.out ho4 HL4.out (by omega)
  have r1 := match_err g1
  obtain ⟨al, ae, hma⟩ : ∃ al ae, matchF p o l = (al, ae) := ⟨_, _, rfl⟩
  rw [hma] at r1
  simp only at r1
  have HG := Lib.hid g1
  have HMA := Lib.hid hma
  clear g1 hma
  go_wp2_with fail
  refine (mcall HMA.out (.slice pa p.length pc) (.slice la l.length lc) w4 HP4.out HL.out).mono ?_
  rintro e w5 ⟨av, rfl, hav, hb5⟩
  have hav' := hav
  obtain ⟨aa, ac, rfl, z1, z2, z3, z4⟩ := hav'
  clear z1 z2 z3 z4
  have hB : w2.heap.size < w4.heap.size := World.block_lt_of_cell? _ _ p4
  have p5 : w5.cell? ⟨w2.heap.size, 0, none⟩ = some (.slice pa p.length pc) := keeps_of_below hb5 _ _ p4
  have HP5 := Lib.hid (HP4.out.below hb5)
  have HAV := Lib.hid hav
  have HL5 := Lib.hid (HL.out.below hb5)
  have HB5 : Hid (Below w.heap.size w w5) := HB4.out.trans (hb5.mono HB4.out.size)
  have hB5 : w2.heap.size < w5.heap.size := World.block_lt_of_cell? _ _ p5
  have P5 := Lib.hid p5
  clear hav hb5 p4 p5 HP4 HL hB
  rcases r1 with rfl | rfl
  · go_wp2_with fail
    go_loopw [9, 10] (fun v9 v10 wr => ∃ (l m : List Int), Ints wr v9 l ∧ Ints wr v10 m ∧ matchF p o l = (m, 0) ∧ Below w5.heap.size w5 wr) (fun _ v _ => sliceLen v)
    case atStart => exact ⟨l, al, HL5.out, HAV.out, HMA.out, Below.refl _ _⟩
    case round =>
      obtain ⟨l, m, hl, hm, hmm, hb⟩ := hrel
      have hl' := hl
      have hm' := hm
      obtain ⟨la, lc, rfl, z1, z2, z3, z4⟩ := hl'
      obtain ⟨ma, mc, rfl, y1, y2, y3, y4⟩ := hm'
      unfold maxLen at y2
      clear z1 z2 z3 z4 y3 y4
      have p6 : wr.cell? ⟨w2.heap.size, 0, none⟩ = some (.slice pa p.length pc) := keeps_of_below hb _ _ P5.out
      have HL := Lib.hid hl
      have HMI := Lib.hid hm
      have HMM := Lib.hid hmm
      have HBR := Lib.hid hb
      have HPr := Lib.hid (HP5.out.below hb)
      have hl30 := good_len (good_of_ok hmm)
      have hacc := fun W (h1 : Rules W (.slice pa p.length pc) p) (h2 : Ints W (.slice la l.length lc) l) => f18_any (.slice pa p.length pc) (.slice la l.length lc) p o l W h1 h2
      rw [acc_of hmm] at hacc
      have HACC := Lib.hid hacc
      clear hl hm hmm hb hacc
      cases m with
      | nil =>
        go_wp2_with fail
        refine (HACC.out _ HPr.out HL.out).mono ?_
        rintro e w6 ⟨rfl, hb6⟩
        have HB6 : Hid (Below w.heap.size w w6) := HB5.out.trans ((HBR.out.mono HB5.out.size).trans (hb6.mono (Nat.le_trans HB5.out.size HBR.out.size)))
        clear hb6
        go_wp2_with fail
        go_ret
        exact ⟨rfl, HB6.out⟩
      | cons x rest =>
        by_cases h30 : l.length = 30
        · have d1 : decide ((l.length : Int) < 30) = false := by simp; omega
          have d2 : ((l.length : Int) == 30) = true := by simp; omega
          clear h30
          go_wp2_with fail
          refine (HACC.out _ HPr.out HL.out).mono ?_
          rintro e w6 ⟨rfl, hb6⟩
          have HB6 : Hid (Below w.heap.size w w6) := HB5.out.trans ((HBR.out.mono HB5.out.size).trans (hb6.mono (Nat.le_trans HB5.out.size HBR.out.size)))
          clear hb6
          go_wp2_with fail
          go_ret
          exact ⟨rfl, HB6.out⟩
        · obtain ⟨mb, mo, mc', e, cx, hx64, _, _⟩ := ints_first HMI.out
          obtain ⟨rfl, rfl⟩ : ma = some ⟨mb, mo, none⟩ ∧ mc = mc' := by simpa using e
          have hlt : l.length < 30 := by omega
          have dlt : decide ((l.length : Int) < 30) = true := by simp; omega
          have HX64 := Lib.hid hx64
          have CX := Lib.hid cx
          have hfill := fill_law (good_of_ok HMM.out) hlt HMM.out
          have HF := Lib.hid hfill
          clear e hx64 hfill
          simp only [List.length_cons]
          by_cases hmc : mc = 1
          · have hdr := ints_tail1 HMI.out hmc
            have HDR := Lib.hid hdr
            subst hmc
            clear hdr
            go_wp2_with fail
            obtain ⟨wo, rfl⟩ : ∃ wo : World, wo = wr := ⟨_, rfl⟩
            go_loopw [12, 13] (fun vf vk wr => ∃ (k : Nat) (f : Int), vk = .int .i64 k ∧ k ≤ l.length + 1 ∧ vf = .int .i64 f ∧ ((f = -1 ∧ ∀ j, j < k → matchF p o (insAt l j x) ≠ (rest, 0)) ∨ ∃ j : Nat, j ≤ l.length ∧ f = j ∧ matchF p o (insAt l j x) = (rest, 0)) ∧ Below wo.heap.size wo wr) (fun _ vk _ => l.length + 1 - (intOf vk).toNat)
            case atStart => exact ⟨0, -1, rfl, by omega, rfl, .inl ⟨rfl, fun j hj => absurd hj (by omega)⟩, Below.refl _ _⟩
            case round =>
              obtain ⟨k, f, rfl, hk, rfl, hst, hb⟩ := hrel
              have HB7 := Lib.hid hb
              have p7 : wr.cell? ⟨w2.heap.size, 0, none⟩ = some (.slice pa p.length pc) := keeps_of_below hb _ _ p6
              have c7 : wr.cell? ⟨mb, mo, none⟩ = some (.int .i64 x) := keeps_of_below hb _ _ CX.out
              have HL7 := Lib.hid (HL.out.below hb)
              have HP7 := Lib.hid (HPr.out.below hb)
              have HD7 := Lib.hid (HDR.out.below hb)
              clear hb
              rcases hst with ⟨rfl, hno⟩ | ⟨j, hj, rfl, hyes⟩
              · have HNO := Lib.hid hno
                clear hno
                by_cases hkl : k ≤ l.length
                · have dk : decide ((k : Int) ≤ (l.length : Int)) = true := by simp; omega
                  obtain ⟨bl, be, hmb⟩ : ∃ bl be, matchF p o (insAt l k x) = (bl, be) := ⟨_, _, rfl⟩
                  have HMB := Lib.hid hmb
                  clear hmb
                  go_wp2_with fail
                  refine wp_region_ord [(0, true), (1, true), (2, true), (3, true), (4, true), (5, true), (6, true), (7, false), (8, false), (9, true), (10, true), (11, true), (12, true), (13, true)] (fun w' => w'.cell? ⟨w2.heap.size, 0, none⟩ = some (.slice pa p.length pc) ∧ w'.cell? ⟨mb, mo, none⟩ = some (.int .i64 x))
                    (by kernel_rfl) (by kernel_rfl) rfl (by kernel_rfl) (fun _ _ d _ _ h => by cases d <;> exact h) ⟨p7, c7⟩ ?_
                  refine wpO_light _ rfl rfl _ (fun w' hS => by obtain ⟨s1, s2⟩ := hS; go_simp; rfl) ?_
                  refine wpO_light _ rfl rfl _ (fun w' hS => by go_simp; rfl) ?_
                  refine wpO_light _ rfl rfl _ (fun w' hS => by go_simp; rfl) ?_
                  go_simp
                  refine wpO_light _ rfl rfl _ (fun w' hS => by go_simp; rfl) ?_
                  refine wpO_light _ rfl rfl _ (fun w' hS => by go_simp; rfl) ?_
                  refine wpO_light _ rfl rfl _ (fun w' hS => by go_simp; rfl) ?_
                  go_simp
                  refine wpO_light _ rfl rfl _ (fun w' hS => by obtain ⟨s1, s2⟩ := hS; go_simp; rfl) ?_
                  go_simp
                  refine wpO_heavy _ rfl rfl fun K' hK => ?_
                  go_simp
                  refine (f28_any _ l k x wr.drew (HL7.out.below (Below.refl _ _).drew) hkl (by omega) HX64.out).mono ?_
                  rintro e w8 ⟨iv, rfl, hiv, hb8⟩
                  have HB8 : Hid (Below wo.heap.size wo w8) := HB7.out.trans ((Below.refl _ wr).drew.trans hb8 |>.mono HB7.out.size)
                  have p8 := keeps_of_below hb8 _ _ p7
                  have c8 := keeps_of_below hb8 _ _ c7
                  refine hK _ _ ⟨⟨p8, c8⟩, ?_⟩
                  have HIV := Lib.hid hiv
                  obtain ⟨ia, ic, rfl, z1, z2, z3, z4⟩ := hiv
                  clear hK K' hb8 z1 z2 z3 z4
                  go_simp
                  refine wpO_heavy _ rfl rfl fun K' hK => ?_
                  go_simp
                  refine (mcall HMB.out (.slice pa p.length pc) _ w8 (HPr.out.below HB8.out) HIV.out).mono ?_
                  rintro e w9 ⟨bv, rfl, hbv, hb9⟩
                  have HB9 : Hid (Below wo.heap.size wo w9) := HB8.out.trans (hb9.mono HB8.out.size)
                  have p9 := keeps_of_below hb9 _ _ p8
                  have c9 := keeps_of_below hb9 _ _ c8
                  refine hK _ _ ⟨⟨p9, c9⟩, ?_⟩
                  have HBV := Lib.hid hbv
                  obtain ⟨ba, bc, rfl, z1, z2, z3, z4⟩ := hbv
                  clear hK K' hb9 z1 z2 z3 z4 p7 p8 c7 c8 HIV
                  refine wpO_light _ rfl rfl _ (fun w' hS => by go_simp; rfl) ?_
                  refine wpO_light _ rfl rfl _ (fun w' hS => by go_simp; rfl) ?_
                  refine wpO_light _ rfl rfl _ (fun w' hS => by go_simp; rfl) ?_
                  go_simp
                  refine wpO_light _ rfl rfl _ (fun w' hS => by go_simp; rfl) ?_
                  refine wpO_light _ rfl rfl _ (fun w' hS => by go_simp; rfl) ?_
                  refine wpO_nil ?_
                  by_cases hbe : be = 0
                  · subst hbe
                    have hint := f17_any _ _ bl rest w9 HBV.out (HDR.out.below HB9.out)
                    have HINT := Lib.hid hint
                    clear hint
                    by_cases hbr : bl = rest
                    · rw [decide_eq_true hbr] at HINT
                      have hyes : matchF p o (insAt l k x) = (rest, 0) := by rw [HMB.out, hbr]
                      have HYES := Lib.hid hyes
                      clear hyes hbr
                      go_wp2_with (go_at_call 17; refine HINT.out.mono ?_; rintro e wa ⟨rfl, hba⟩)
                      exact ⟨⟨k + 1, k, by go_num, by omega, rfl, .inr ⟨k, hkl, rfl, HYES.out⟩, HB9.out.trans (hba.mono HB9.out.size)⟩, by simp only [intOf]; omega⟩
                    · rw [decide_eq_false hbr] at HINT
                      have hn : ∀ j, j < k + 1 → matchF p o (insAt l j x) ≠ (rest, 0) := fun j hj => by
                        rcases Nat.lt_succ_iff_lt_or_eq.1 hj with h | rfl
                        · exact HNO.out j h
                        · rw [HMB.out]; intro e; exact hbr (by simpa using e)
                      have HN := Lib.hid hn
                      clear hn hbr
                      go_wp2_with (go_at_call 17; refine HINT.out.mono ?_; rintro e wa ⟨rfl, hba⟩)
                      exact ⟨⟨k + 1, -1, by go_num, by omega, rfl, .inl ⟨rfl, HN.out⟩, HB9.out.trans (hba.mono HB9.out.size)⟩, by simp only [intOf]; omega⟩
                  · have dbe : (be == 0) = false := by simpa using hbe
                    have hn : ∀ j, j < k + 1 → matchF p o (insAt l j x) ≠ (rest, 0) := fun j hj => by
                      rcases Nat.lt_succ_iff_lt_or_eq.1 hj with h | rfl
                      · exact HNO.out j h
                      · rw [HMB.out]; intro e; exact hbe (by simpa using congrArg Prod.snd e)
                    have HN := Lib.hid hn
                    clear hn
                    go_wp2_with fail
                    exact ⟨⟨k + 1, -1, by go_num, by omega, rfl, .inl ⟨rfl, HN.out⟩, HB9.out⟩, by simp only [intOf]; omega⟩
                · exfalso
                  obtain ⟨j, hj, hjm, _⟩ := HF.out
                  exact HNO.out j (by omega) hjm
              · have dj : decide ((j : Int) < 0) = false := by simp
                have HYES := Lib.hid hyes
                have HI7 := Lib.hid (f28_any _ l j x wr HL7.out hj (by omega) HX64.out)
                clear hyes
                rcases Nat.lt_or_ge l.length k with hkl | hkl
                · have dk : decide ((k : Int) ≤ (l.length : Int)) = false := by simp; omega
                  go_wp2_with (go_at_call 28; refine HI7.out.mono ?_; rintro e w8 ⟨iv, rfl, hiv, hb8⟩; have HIV := Lib.hid hiv; have HB8 := Lib.hid hb8; obtain ⟨ia, ic, rfl, z1, z2, z3, z4⟩ := hiv; clear z1 z2 z3 z4 hb8)
                  exact ⟨⟨insAt l j x, rest, HIV.out, HD7.out.below HB8.out, HYES.out, HBR.out.trans ((HB7.out.trans (HB8.out.mono HB7.out.size)).mono HBR.out.size)⟩, by simp [sliceLen]⟩
                · have dk : decide ((k : Int) ≤ (l.length : Int)) = true := by simp; omega
                  go_wp2_with (go_at_call 28; refine HI7.out.mono ?_; rintro e w8 ⟨iv, rfl, hiv, hb8⟩; have HIV := Lib.hid hiv; have HB8 := Lib.hid hb8; obtain ⟨ia, ic, rfl, z1, z2, z3, z4⟩ := hiv; clear z1 z2 z3 z4 hb8)
                  exact ⟨⟨insAt l j x, rest, HIV.out, HD7.out.below HB8.out, HYES.out, HBR.out.trans ((HB7.out.trans (HB8.out.mono HB7.out.size)).mono HBR.out.size)⟩, by simp [sliceLen]⟩
          · have hdr := ints_tail2 HMI.out
            have HDR := Lib.hid hdr
            have hmc1 : (mc == 1) = false := by simpa using hmc
            have hmc2 : (1 : Int) ≤ (mc : Int) := by omega
            clear hdr
            go_wp2_with fail
            obtain ⟨wo, rfl⟩ : ∃ wo : World, wo = wr := ⟨_, rfl⟩
            go_loopw [12, 13] (fun vf vk wr => ∃ (k : Nat) (f : Int), vk = .int .i64 k ∧ k ≤ l.length + 1 ∧ vf = .int .i64 f ∧ ((f = -1 ∧ ∀ j, j < k → matchF p o (insAt l j x) ≠ (rest, 0)) ∨ ∃ j : Nat, j ≤ l.length ∧ f = j ∧ matchF p o (insAt l j x) = (rest, 0)) ∧ Below wo.heap.size wo wr) (fun _ vk _ => l.length + 1 - (intOf vk).toNat)
            case atStart => exact ⟨0, -1, rfl, by omega, rfl, .inl ⟨rfl, fun j hj => absurd hj (by omega)⟩, Below.refl _ _⟩
            case round =>
              obtain ⟨k, f, rfl, hk, rfl, hst, hb⟩ := hrel
              have HB7 := Lib.hid hb
              have p7 : wr.cell? ⟨w2.heap.size, 0, none⟩ = some (.slice pa p.length pc) := keeps_of_below hb _ _ p6
              have c7 : wr.cell? ⟨mb, mo, none⟩ = some (.int .i64 x) := keeps_of_below hb _ _ CX.out
              have HL7 := Lib.hid (HL.out.below hb)
              have HP7 := Lib.hid (HPr.out.below hb)
              have HD7 := Lib.hid (HDR.out.below hb)
              clear hb
              rcases hst with ⟨rfl, hno⟩ | ⟨j, hj, rfl, hyes⟩
              · have HNO := Lib.hid hno
                clear hno
                by_cases hkl : k ≤ l.length
                · have dk : decide ((k : Int) ≤ (l.length : Int)) = true := by simp; omega
                  obtain ⟨bl, be, hmb⟩ : ∃ bl be, matchF p o (insAt l k x) = (bl, be) := ⟨_, _, rfl⟩
                  have HMB := Lib.hid hmb
                  clear hmb
                  go_wp2_with fail
                  refine wp_region_ord [(0, true), (1, true), (2, true), (3, true), (4, true), (5, true), (6, true), (7, false), (8, false), (9, true), (10, true), (11, true), (12, true), (13, true)] (fun w' => w'.cell? ⟨w2.heap.size, 0, none⟩ = some (.slice pa p.length pc) ∧ w'.cell? ⟨mb, mo, none⟩ = some (.int .i64 x))
                    (by kernel_rfl) (by kernel_rfl) rfl (by kernel_rfl) (fun _ _ d _ _ h => by cases d <;> exact h) ⟨p7, c7⟩ ?_
                  refine wpO_light _ rfl rfl _ (fun w' hS => by obtain ⟨s1, s2⟩ := hS; go_simp; rfl) ?_
                  refine wpO_light _ rfl rfl _ (fun w' hS => by go_simp; rfl) ?_
                  refine wpO_light _ rfl rfl _ (fun w' hS => by go_simp; rfl) ?_
                  go_simp
                  refine wpO_light _ rfl rfl _ (fun w' hS => by go_simp; rfl) ?_
                  refine wpO_light _ rfl rfl _ (fun w' hS => by go_simp; rfl) ?_
                  refine wpO_light _ rfl rfl _ (fun w' hS => by go_simp; rfl) ?_
                  go_simp
                  refine wpO_light _ rfl rfl _ (fun w' hS => by obtain ⟨s1, s2⟩ := hS; go_simp; rfl) ?_
                  go_simp
                  refine wpO_heavy _ rfl rfl fun K' hK => ?_
                  go_simp
                  refine (f28_any _ l k x wr.drew (HL7.out.below (Below.refl _ _).drew) hkl (by omega) HX64.out).mono ?_
                  rintro e w8 ⟨iv, rfl, hiv, hb8⟩
                  have HB8 : Hid (Below wo.heap.size wo w8) := HB7.out.trans ((Below.refl _ wr).drew.trans hb8 |>.mono HB7.out.size)
                  have p8 := keeps_of_below hb8 _ _ p7
                  have c8 := keeps_of_below hb8 _ _ c7
                  refine hK _ _ ⟨⟨p8, c8⟩, ?_⟩
                  have HIV := Lib.hid hiv
                  obtain ⟨ia, ic, rfl, z1, z2, z3, z4⟩ := hiv
                  clear hK K' hb8 z1 z2 z3 z4
                  go_simp
                  refine wpO_heavy _ rfl rfl fun K' hK => ?_
                  go_simp
                  refine (mcall HMB.out (.slice pa p.length pc) _ w8 (HPr.out.below HB8.out) HIV.out).mono ?_
                  rintro e w9 ⟨bv, rfl, hbv, hb9⟩
                  have HB9 : Hid (Below wo.heap.size wo w9) := HB8.out.trans (hb9.mono HB8.out.size)
                  have p9 := keeps_of_below hb9 _ _ p8
                  have c9 := keeps_of_below hb9 _ _ c8
                  refine hK _ _ ⟨⟨p9, c9⟩, ?_⟩
                  have HBV := Lib.hid hbv
                  obtain ⟨ba, bc, rfl, z1, z2, z3, z4⟩ := hbv
                  clear hK K' hb9 z1 z2 z3 z4 p7 p8 c7 c8 HIV
                  refine wpO_light _ rfl rfl _ (fun w' hS => by go_simp; rfl) ?_
                  refine wpO_light _ rfl rfl _ (fun w' hS => by go_simp; rfl) ?_
                  refine wpO_light _ rfl rfl _ (fun w' hS => by go_simp; rfl) ?_
                  go_simp
                  refine wpO_light _ rfl rfl _ (fun w' hS => by go_simp; rfl) ?_
                  refine wpO_light _ rfl rfl _ (fun w' hS => by go_simp; rfl) ?_
                  refine wpO_nil ?_
                  by_cases hbe : be = 0
                  · subst hbe
                    have hint := f17_any _ _ bl rest w9 HBV.out (HDR.out.below HB9.out)
                    have HINT := Lib.hid hint
                    clear hint
                    by_cases hbr : bl = rest
                    · rw [decide_eq_true hbr] at HINT
                      have hyes : matchF p o (insAt l k x) = (rest, 0) := by rw [HMB.out, hbr]
                      have HYES := Lib.hid hyes
                      clear hyes hbr
                      go_wp2_with (go_at_call 17; refine HINT.out.mono ?_; rintro e wa ⟨rfl, hba⟩)
                      exact ⟨⟨k + 1, k, by go_num, by omega, rfl, .inr ⟨k, hkl, rfl, HYES.out⟩, HB9.out.trans (hba.mono HB9.out.size)⟩, by simp only [intOf]; omega⟩
                    · rw [decide_eq_false hbr] at HINT
                      have hn : ∀ j, j < k + 1 → matchF p o (insAt l j x) ≠ (rest, 0) := fun j hj => by
                        rcases Nat.lt_succ_iff_lt_or_eq.1 hj with h | rfl
                        · exact HNO.out j h
                        · rw [HMB.out]; intro e; exact hbr (by simpa using e)
                      have HN := Lib.hid hn
                      clear hn hbr
                      go_wp2_with (go_at_call 17; refine HINT.out.mono ?_; rintro e wa ⟨rfl, hba⟩)
                      exact ⟨⟨k + 1, -1, by go_num, by omega, rfl, .inl ⟨rfl, HN.out⟩, HB9.out.trans (hba.mono HB9.out.size)⟩, by simp only [intOf]; omega⟩
                  · have dbe : (be == 0) = false := by simpa using hbe
                    have hn : ∀ j, j < k + 1 → matchF p o (insAt l j x) ≠ (rest, 0) := fun j hj => by
                      rcases Nat.lt_succ_iff_lt_or_eq.1 hj with h | rfl
                      · exact HNO.out j h
                      · rw [HMB.out]; intro e; exact hbe (by simpa using congrArg Prod.snd e)
                    have HN := Lib.hid hn
                    clear hn
                    go_wp2_with fail
                    exact ⟨⟨k + 1, -1, by go_num, by omega, rfl, .inl ⟨rfl, HN.out⟩, HB9.out⟩, by simp only [intOf]; omega⟩
                · exfalso
                  obtain ⟨j, hj, hjm, _⟩ := HF.out
                  exact HNO.out j (by omega) hjm
              · have dj : decide ((j : Int) < 0) = false := by simp
                have HYES := Lib.hid hyes
                have HI7 := Lib.hid (f28_any _ l j x wr HL7.out hj (by omega) HX64.out)
                clear hyes
                rcases Nat.lt_or_ge l.length k with hkl | hkl
                · have dk : decide ((k : Int) ≤ (l.length : Int)) = false := by simp; omega
                  go_wp2_with (go_at_call 28; refine HI7.out.mono ?_; rintro e w8 ⟨iv, rfl, hiv, hb8⟩; have HIV := Lib.hid hiv; have HB8 := Lib.hid hb8; obtain ⟨ia, ic, rfl, z1, z2, z3, z4⟩ := hiv; clear z1 z2 z3 z4 hb8)
                  exact ⟨⟨insAt l j x, rest, HIV.out, HD7.out.below HB8.out, HYES.out, HBR.out.trans ((HB7.out.trans (HB8.out.mono HB7.out.size)).mono HBR.out.size)⟩, by simp [sliceLen]⟩
                · have dk : decide ((k : Int) ≤ (l.length : Int)) = true := by simp; omega
                  go_wp2_with (go_at_call 28; refine HI7.out.mono ?_; rintro e w8 ⟨iv, rfl, hiv, hb8⟩; have HIV := Lib.hid hiv; have HB8 := Lib.hid hb8; obtain ⟨ia, ic, rfl, z1, z2, z3, z4⟩ := hiv; clear z1 z2 z3 z4 hb8)
                  exact ⟨⟨insAt l j x, rest, HIV.out, HD7.out.below HB8.out, HYES.out, HBR.out.trans ((HB7.out.trans (HB8.out.mono HB7.out.size)).mono HBR.out.size)⟩, by simp [sliceLen]⟩
  · go_wp2_with fail
    go_loopw [9, 10] (fun v9 v10 wr => v9 = .slice la l.length lc ∧ v10 = .slice aa al.length ac ∧ wr = w5) (fun _ v _ => 0)
    case atStart => exact ⟨rfl, rfl, rfl⟩
    case round =>
      obtain ⟨rfl, rfl, rfl⟩ := hrel
      have p6 := P5.out
      go_wp2_with fail
      go_ret
      exact ⟨rfl, HB5.out⟩
end Go.Proofs.YteilaajjpjhijaaDoor
