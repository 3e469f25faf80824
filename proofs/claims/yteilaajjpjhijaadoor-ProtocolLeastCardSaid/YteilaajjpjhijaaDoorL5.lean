/- Walk of the law Least. -/
import Derived.Test.YteilaajjpjhijaaDoorL7
import Derived.Test.YteilaajjpjhijaaDoorXe
namespace Go.Proofs.YteilaajjpjhijaaDoor
open Go.RowKit PSpec

set_option maxRecDepth 100000 in
set_option maxHeartbeats 8000000 in
theorem f5_any (xv yv : Value) (n : Nat) (op : Int) (ys : List Int) (w : World) (hlay : Lay w) (hx : Fours w xv n) (hy : Ints w yv ys) (ho : I64 op) :
    Calls Tryd.prog 5 #[xv, .int .i64 op, yv] w (LawPost w) := by
  have HX := Lib.hid hx
  have HY := Lib.hid hy
  have HLAY := Lib.hid hlay
  obtain ⟨o, ho4, _, hqo⟩ := pick_nat op 4 4 rfl ho (by decide) (by decide)
  have HQO := Lib.hid hqo
  clear hx hy hlay hqo ho
  go_enter Tryd.func5, Tryd.ntmps5
  go_wp2_with fail
  refine (f10_any w HLAY.out).mono ?_
  rintro e w1 ⟨rfl, hb1⟩
  have HB1 := Lib.hid hb1
  clear hb1
  go_wp2_with fail
  refine (f11_any xv n w1 (HX.out.below HB1.out)).mono ?_
  rintro e w2 ⟨pv, p, rfl, hp, hm, hb2⟩
  have hp' := hp
  obtain ⟨pa, pc, rfl, z1, z2, z3⟩ := hp'
  clear z1 z2 z3
  have bA : Below w2.heap.size w2 (w2.alloc (.cells #[.slice pa p.length pc] 24)) := (Below.refl _ _).alloc (Nat.le_refl _) _
  have HP := Lib.hid (hp.below bA)
  have HB2 : Hid (Below w.heap.size w (w2.alloc (.cells #[.slice pa p.length pc] 24))) := HB1.out.trans ((hb2.mono HB1.out.size).trans (bA.mono (Nat.le_trans HB1.out.size hb2.size)))
  have HM := Lib.hid hm
  clear hp hm hb2 bA
  go_wp2_with (go_at_call 13; with_reducible refine (HQO.out _).mono ?_; rintro e w3 ⟨rfl, rfl⟩)
  refine (f14_any (.slice pa p.length pc) yv p o ys _ HP.out (HY.out.below HB2.out) HM.out.valid HM.out.ops).mono ?_
  rintro e w4 ⟨lv, l, rfl, hl, hl4, hl12, hb4⟩
  have hl' := hl
  obtain ⟨la, lc, rfl, z1, z2, z3, z4⟩ := hl'
  clear z1 z2 z3 z4
  have HP4 := Lib.hid (HP.out.below hb4)
  have HB4 : Hid (Below w.heap.size w w4) := HB2.out.trans (hb4.mono HB2.out.size)
  have p4 : w4.cell? ⟨w2.heap.size, 0, none⟩ = some (.slice pa p.length pc) := keeps_of_below hb4 _ _ (by go_simp)
  have HL := Lib.hid hl
  have HL4 := Lib.hid hl4
  clear hl hb4 hl4 HP
  obtain ⟨K, l2, hK, hl2, hlen2, h42, hmin, hKc⟩ : ∃ (K : Nat) (l2 : List Int), K ≤ 7 ∧ Ints w4 (.slice la K lc) l2 ∧ l2.length = K ∧ (∀ x, x ∈ l2 → Four x) ∧ min (l.length : Int) 7 = K ∧ K ≤ lc := by
    obtain ⟨a', c', e, h1, _⟩ := HL.out
    obtain ⟨rfl, rfl⟩ : la = a' ∧ lc = c' := by simpa using e
    refine ⟨min l.length 7, l.take (min l.length 7), by omega, HL.out.take la _ (by omega), by rw [List.length_take]; omega, fun x hx => HL4.out x (List.mem_of_mem_take hx), by omega, by omega⟩
  have g1 : Good p (o : Int) l2 := good_made HM.out ho4 h42 (by omega)
  have hlaw := fun many hm => least_law g1 HM.out.ops (by omega : l2.length ≤ 7) many hm
  have r1 := match_err g1
  obtain ⟨al, ae, hma⟩ : ∃ al ae, matchF p o l2 = (al, ae) := ⟨_, _, rfl⟩
  rw [hma] at r1 hlaw
  simp only at r1 hlaw
  have hcall := mcall hma (.slice pa p.length pc) (.slice la K lc) w4 HP4.out hl2
  have HCALL := Lib.hid hcall
  have HL2 := Lib.hid hl2
  have HLAW := Lib.hid hlaw
  have HLEN := Lib.hid hlen2
  have hKc2 : (K : Int) ≤ (lc : Int) := by omega
  clear g1 hma hcall hl2 hlaw h42 hlen2
  go_wp2_with fail
  refine HCALL.out.mono ?_
  rintro e w5 ⟨av, rfl, hav, hb5⟩
  obtain ⟨aa, ac, rfl, z1, z2, z3, z4⟩ := hav
  obtain ⟨ml, hml⟩ : ∃ ml, ml = al.length := ⟨_, rfl⟩
  rw [← hml] at HLAW ⊢
  clear z1 z2 z3 z4 hml
  have p5 : w5.cell? ⟨w2.heap.size, 0, none⟩ = some (.slice pa p.length pc) := keeps_of_below hb5 _ _ p4
  have HP5 := Lib.hid (HP4.out.below hb5)
  have HL5 := Lib.hid (HL2.out.below hb5)
  have HB5 : Hid (Below w.heap.size w w5) := HB4.out.trans (hb5.mono HB4.out.size)
  have P5 := Lib.hid p5
  clear hb5 p4 p5 HP4 HL HCALL
  rcases r1 with rfl | rfl
  · go_wp2_with fail
    go_loopw [12] (fun v wr => ∃ k : Nat, v = .int .i64 k ∧ k ≤ 3 ∧ Below w5.heap.size w5 wr) (fun v _ => 3 - (intOf v).toNat)
    case atStart => exact ⟨0, rfl, by omega, Below.refl _ _⟩
    case round =>
      obtain ⟨k, rfl, hk, hb⟩ := hrel
      have p6 : wr.cell? ⟨w2.heap.size, 0, none⟩ = some (.slice pa p.length pc) := keeps_of_below hb _ _ P5.out
      have HBR := Lib.hid hb
      have HPr := Lib.hid (HP5.out.below hb)
      have HLr := Lib.hid (HL5.out.below hb)
      clear hb
      by_cases hk3 : k = 3
      · subst hk3
        go_wp2_with fail
        go_ret
        exact ⟨rfl, HB5.out.trans (HBR.out.mono HB5.out.size)⟩
      · have dk : decide ((k : Int) ≤ 2) = true := by simp; omega
        have hf := f27_any (.slice pa p.length pc) (.slice la K lc) p o l2 k wr HPr.out HLr.out (by rw [HLEN.out]; omega) (by omega)
        obtain ⟨_, hl2, hl3⟩ := HLAW.out k (by omega)
        simp only [true_implies] at hl2 hl3
        obtain ⟨q, hq⟩ : ∃ q, reachB p o l2 k = q := ⟨_, rfl⟩
        unfold ReachPost at hf
        rw [hq] at hf hl2 hl3
        have HF := Lib.hid hf
        clear hq hf
        by_cases hkm : k = ml
        · obtain rfl := hl3 hkm
          subst hkm
          have dlt : decide ((k : Int) < (k : Int)) = false := by simp
          clear hl2 hl3
          go_wp2_with (go_at_call 27; refine HF.out.mono ?_; rintro e w6 ⟨rfl, hb6⟩)
          exact ⟨⟨k + 1, by go_num, by omega, HBR.out.trans (hb6.mono HBR.out.size)⟩, by simp only [intOf]; omega⟩
        · have dne : ((k : Int) == (ml : Int)) = false := by simp; omega
          clear hl3
          by_cases hlt : k < ml
          · obtain rfl := hl2 hlt
            clear hl2
            go_wp2_with (go_at_call 27; refine HF.out.mono ?_; rintro e w6 ⟨rfl, hb6⟩)
            exact ⟨⟨k + 1, by go_num, by omega, HBR.out.trans (hb6.mono HBR.out.size)⟩, by simp only [intOf]; omega⟩
          · clear hl2
            go_wp2_with (go_at_call 27; refine HF.out.mono ?_; rintro e w6 ⟨rfl, hb6⟩)
            exact ⟨⟨k + 1, by go_num, by omega, HBR.out.trans (hb6.mono HBR.out.size)⟩, by simp only [intOf]; omega⟩
  · go_wp2_with fail
    go_loopw [12] (fun v wr => ∃ k : Nat, v = .int .i64 k ∧ k ≤ 3 ∧ Below w5.heap.size w5 wr) (fun v _ => 3 - (intOf v).toNat)
    case atStart => exact ⟨0, rfl, by omega, Below.refl _ _⟩
    case round =>
      obtain ⟨k, rfl, hk, hb⟩ := hrel
      have p6 : wr.cell? ⟨w2.heap.size, 0, none⟩ = some (.slice pa p.length pc) := keeps_of_below hb _ _ P5.out
      have HBR := Lib.hid hb
      have HPr := Lib.hid (HP5.out.below hb)
      have HLr := Lib.hid (HL5.out.below hb)
      clear hb
      by_cases hk3 : k = 3
      · subst hk3
        go_wp2_with fail
        go_ret
        exact ⟨rfl, HB5.out.trans (HBR.out.mono HB5.out.size)⟩
      · have dk : decide ((k : Int) ≤ 2) = true := by simp; omega
        have hf := f27_any (.slice pa p.length pc) (.slice la K lc) p o l2 k wr HPr.out HLr.out (by rw [HLEN.out]; omega) (by omega)
        obtain ⟨hl1, _, _⟩ := HLAW.out k (by omega)
        unfold ReachPost at hf
        rw [hl1 trivial] at hf
        have HF := Lib.hid hf
        clear hl1 hf
        go_wp2_with (go_at_call 27; refine HF.out.mono ?_; rintro e w6 ⟨rfl, hb6⟩)
        exact ⟨⟨k + 1, by go_num, by omega, HBR.out.trans (hb6.mono HBR.out.size)⟩, by simp only [intOf]; omega⟩
end Go.Proofs.YteilaajjpjhijaaDoor
