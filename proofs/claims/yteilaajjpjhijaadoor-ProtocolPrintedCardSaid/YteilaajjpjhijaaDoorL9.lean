/- Walk of the law Printed. -/
import Derived.Test.YteilaajjpjhijaaDoorL7
import Derived.Test.YteilaajjpjhijaaDoorXc
namespace Go.Proofs.YteilaajjpjhijaaDoor
open Go.RowKit PSpec

theorem printF_t {p : Pr} (h : validB p = true) : printF p = (printS p, 0) := by unfold printF; rw [if_pos h]
theorem printF_f {p : Pr} (h : validB p = false) : printF p = ([], 130) := by unfold printF; rw [if_neg (by simp [h])]
theorem pcall {p : Pr} {s : Bs} {e : Int} (h : printF p = (s, e)) (pv : Value) (w : World) (hp : Rules w pv p) : Calls Tryd.prog 22 #[.agg #[pv]] w fun en w' => en = .returned (.tuple #[.string (bsA s), .int .i64 e]) ∧ Below w.heap.size w w' := by
  have := f22_any pv p w hp
  unfold PrintPost at this
  rw [h] at this
  exact this
theorem prcall {s : Bs} {p : Pr} {n e : Int} (h : parseF s = (p, n, e)) (w : World) (hs : s.length ≤ 100000) (hl : Lay w) : Calls Tryd.prog 24 #[.string (bsA s)] w fun en w' => ∃ pv, en = .returned (.tuple #[.agg #[pv], .int .i64 n, .int .i64 e]) ∧ Rules w' pv p ∧ Below w.heap.size w w' := by
  have := f24_any s w hs hl
  unfold ParsePost at this
  rw [h] at this
  exact this
theorem print_small {p : Pr} (h : validB p = true) : (printS p).length ≤ 100000 := by
  have h' := h
  unfold validB at h'
  simp only [Bool.and_eq_true, decide_eq_true_eq] at h'
  have := print_len p h'.2
  omega
theorem own_rules {w : World} {v : Value} {p : Pr} (h : Rules w v p) : ∃ a c, v = .slice a p.length c := by
  obtain ⟨a, c, rfl, _⟩ := h; exact ⟨a, c, rfl⟩

set_option maxRecDepth 100000 in
set_option maxHeartbeats 8000000 in
theorem f9_any (pv xv : Value) (p0 : Pr) (n : Nat) (S : Bs) (w : World) (hlay : Lay w) (hp : Rules w pv p0) (hx : Fours w xv n) (hS : (S.length : Int) ≤ 9223372036854775807) :
    Calls Tryd.prog 9 #[.agg #[pv], xv, .string (bsA S)] w (LawPost w) := by
  obtain ⟨pa, pc, rfl⟩ := own_rules hp
  have b0 : Below w.heap.size w (w.alloc (.cells #[.slice pa p0.length pc] 24)) := (Below.refl _ _).alloc (Nat.le_refl _) _
  have hc0 : (w.alloc (.cells #[.slice pa p0.length pc] 24)).cell? ⟨w.heap.size, 0, none⟩ = some (.slice pa p0.length pc) := by go_simp
  have HX := Lib.hid hx
  have HP := Lib.hid hp
  have HLAY := Lib.hid hlay
  have B0 := Lib.hid b0
  have HC0 := Lib.hid hc0
  clear hx hp hlay b0 hc0
  go_enter Tryd.func9, Tryd.ntmps9
  go_wp2_with fail
  refine (f10_any _ (HLAY.out.below B0.out)).mono ?_
  rintro e w1 ⟨rfl, hb1⟩
  have HB1 : Hid (Below w.heap.size w w1) := B0.out.trans (hb1.mono B0.out.size)
  have c1 : w1.cell? ⟨w.heap.size, 0, none⟩ = some (.slice pa p0.length pc) := keeps_of_below hb1 _ _ HC0.out
  clear hb1
  go_wp2_with fail
  refine (f12_any _ p0 w1 (HP.out.below HB1.out)).mono ?_
  rintro e w2 ⟨v1, q1, rfl, hq1, hb2⟩
  obtain ⟨a1, k1, rfl⟩ := own_rules hq1
  have HB2 : Hid (Below w.heap.size w w2) := HB1.out.trans (hb2.mono HB1.out.size)
  have HQ1 := Lib.hid hq1
  clear hq1 hb2
  go_wp2_with fail
  refine (f11_any xv n w2 (HX.out.below HB2.out)).mono ?_
  rintro e w3 ⟨v2, q2, rfl, hq2, _, hb3⟩
  obtain ⟨a2, k2, rfl⟩ := own_rules hq2
  have HB3 : Hid (Below w.heap.size w w3) := HB2.out.trans (hb3.mono HB2.out.size)
  have HQ1' := Lib.hid (HQ1.out.below hb3)
  have HQ2 := Lib.hid hq2
  clear hq2 hb3 HQ1
  go_wp2_with fail
  obtain ⟨w3b, hw3⟩ : ∃ W, W = w3.alloc (Obj.cells #[Value.slice a1 q1.length k1, Value.slice a2 q2.length k2] 24) := ⟨_, rfl⟩
  have b3 : Below w3.heap.size w3 w3b := by rw [hw3]; exact (Below.refl _ _).alloc (Nat.le_refl _) _
  have hc3 : w3b.cell? ⟨w3.heap.size, 0, none⟩ = some (.slice a1 q1.length k1) ∧ w3b.cell? ⟨w3.heap.size, 1, none⟩ = some (.slice a2 q2.length k2) := by
    rw [hw3]; constructor <;> go_simp
  rw [← hw3]
  have C3 := Lib.hid hc3
  have HB4 : Hid (Below w.heap.size w w3b) := HB3.out.trans (b3.mono HB3.out.size)
  have R1 := Lib.hid (HQ1'.out.below b3)
  have R2 := Lib.hid (HQ2.out.below b3)
  obtain ⟨g, hg⟩ : ∃ g, g = w3.heap.size := ⟨_, rfl⟩
  rw [← hg] at C3 ⊢
  clear hc3 hw3 b3 HQ1' HQ2 hg HB3 HB2 HB1 B0 HC0 c1 HP HX
  go_loopw [28] (fun v wr => ∃ k : Nat, v = .int .i64 k ∧ k ≤ 2 ∧ Below w3b.heap.size w3b wr) (fun v _ => 2 - (intOf v).toNat)
  case atStart => exact ⟨0, rfl, by omega, Below.refl _ _⟩
  case round =>
    obtain ⟨k, rfl, hk, hb⟩ := hrel
    have HBR := Lib.hid hb
    clear hb
    by_cases hk2 : k = 2
    · subst hk2
      have hm : min (S.length : Int) 300 = ((min S.length 300 : Nat) : Int) := by omega
      obtain ⟨m, hm1, hm2⟩ : ∃ m : Nat, m = min S.length 300 ∧ m ≤ S.length := ⟨_, rfl, by omega⟩
      have hsz : (bsA S).size = S.length := bsA_size S
      have htk : (bsA S).extract 0 m = bsA (S.take m) := bsA_take S m
      rw [← hm1] at hm
      have hT : (S.take m).length ≤ 300 := by rw [List.length_take]; omega
      have HT := Lib.hid hT
      have hps := parse_some (S.take m)
      obtain ⟨p, n, e, hpe⟩ : ∃ p n e, parseF (S.take m) = (p, n, e) := ⟨_, _, _, rfl⟩
      rw [hpe] at hps
      have HPE := Lib.hid hpe
      have HPS := Lib.hid hps
      have HLr := Lib.hid ((HLAY.out.below HB4.out).below HBR.out)
      clear hps hpe hT hm1
      have hmle : (m : Int) ≤ (S.length : Int) := by omega
      go_wp2_with fail
      refine (prcall HPE.out wr (Nat.le_trans HT.out (by decide)) HLr.out).mono ?_
      rintro e1 w4 ⟨qv, rfl, hq, hb4⟩
      obtain ⟨qa, qc, rfl⟩ := own_rules hq
      have b5 : Below w4.heap.size w4 (w4.alloc (.cells #[.slice qa p.length qc] 24)) := (Below.refl _ _).alloc (Nat.le_refl _) _
      have HQ5 := Lib.hid (hq.below b5)
      have HB5 : Hid (Below w.heap.size w (w4.alloc (.cells #[.slice qa p.length qc] 24))) := HB4.out.trans (((HBR.out.trans (hb4.mono HBR.out.size)).trans (b5.mono (Nat.le_trans HBR.out.size hb4.size))).mono HB4.out.size)
      clear hq hb4 b5
      rcases HPS.out with ⟨h1, h2, h3, h4⟩ | ⟨h1, h2, h3⟩
      · subst h1 h2
        have HPC := Lib.hid (fun W => pcall (printF_t h3) (.slice qa p.length qc) W)
        rw [h4] at HPC
        clear h3 h4
        go_wp2_with (go_at_call 22; refine (HPC.out _ HQ5.out).mono ?_; rintro e5 w5 ⟨rfl, hb5⟩; have HB6 := Lib.hid (HB5.out.trans (hb5.mono HB5.out.size)); clear hb5)
        go_ret
        exact ⟨rfl, HB6.out⟩
      · subst h1
        have d1 : decide ((1 : Int) ≤ n) = true := by simpa using h2
        clear h3
        go_wp2_with fail
        go_ret
        exact ⟨rfl, HB5.out⟩
    · have hlt : (k : Int) < 2 := by omega
      have k0 : (0 : Int) ≤ (k : Int) := by omega
      obtain ⟨qa, qc, P, hP, hcell⟩ : ∃ (qa : Option Addr) (qc : Nat) (P : Pr), Rules w3b (.slice qa P.length qc) P ∧ w3b.cell? ⟨g, k, none⟩ = some (.slice qa P.length qc) := by
        rcases Nat.lt_or_ge k 1 with h | h
        · obtain rfl : k = 0 := by omega
          exact ⟨a1, k1, q1, R1.out, C3.out.1⟩
        · obtain rfl : k = 1 := by omega
          exact ⟨a2, k2, q2, R2.out, C3.out.2⟩
      have c4 : wr.cell? ⟨g, k, none⟩ = some (.slice qa P.length qc) := keeps_of_below HBR.out _ _ hcell
      have b5 : Below wr.heap.size wr (wr.alloc (.cells #[.slice qa P.length qc] 24)) := (Below.refl _ _).alloc (Nat.le_refl _) _
      have HQ5 := Lib.hid ((hP.below HBR.out).below b5)
      have HBa : Hid (Below w3b.heap.size w3b (wr.alloc (.cells #[.slice qa P.length qc] 24))) := HBR.out.trans (b5.mono HBR.out.size)
      have c5 : (wr.alloc (.cells #[.slice qa P.length qc] 24)).cell? ⟨wr.heap.size, 0, none⟩ = some (.slice qa P.length qc) := by go_simp
      have C5 := Lib.hid c5
      clear hP hcell b5 c5
      cases hv : validB P with
      | false =>
        have HPC := Lib.hid (fun W => pcall (printF_f hv) (.slice qa P.length qc) W)
        have HV := Lib.hid (fun W => f20_any (.slice qa P.length qc) P W)
        rw [hv] at HV
        clear hv
        go_wp2_with fail
        refine (HPC.out _ HQ5.out).mono ?_
        rintro e5 w5 ⟨rfl, hb5⟩
        have HQ6 := Lib.hid (HQ5.out.below hb5)
        have HBb := Lib.hid (HBa.out.trans (hb5.mono HBa.out.size))
        have c6 : w5.cell? ⟨wr.heap.size, 0, none⟩ = some (.slice qa P.length qc) := keeps_of_below hb5 _ _ C5.out
        clear hb5
        go_wp2_with (go_at_call 20; refine (HV.out _ HQ6.out).mono ?_; rintro e6 w6 ⟨rfl, hb6⟩; have HBc := Lib.hid (HBb.out.trans (hb6.mono HBb.out.size)); clear hb6)
        exact ⟨⟨k + 1, by go_num, by omega, HBc.out⟩, by simp only [intOf]; omega⟩
      | true =>
        have HPC := Lib.hid (fun W => pcall (printF_t hv) (.slice qa P.length qc) W)
        have HV := Lib.hid (fun W => f20_any (.slice qa P.length qc) P W)
        rw [hv] at HV
        have HPR := Lib.hid (fun W => prcall (parse_print P hv) W (print_small hv))
        have HSM := Lib.hid (fun (u : Value) W h1 h2 => f26_any (.slice qa P.length qc) u P P W h1 h2)
        clear hv
        go_wp2_with fail
        refine (HPC.out _ HQ5.out).mono ?_
        rintro e5 w5 ⟨rfl, hb5⟩
        have HQ6 := Lib.hid (HQ5.out.below hb5)
        have HBb := Lib.hid (HBa.out.trans (hb5.mono HBa.out.size))
        have c6 : w5.cell? ⟨wr.heap.size, 0, none⟩ = some (.slice qa P.length qc) := keeps_of_below hb5 _ _ C5.out
        clear hb5
        go_wp2_with fail
        refine (HV.out _ HQ6.out).mono ?_
        rintro e6 w6 ⟨rfl, hb6⟩
        have c7 : w6.cell? ⟨wr.heap.size, 0, none⟩ = some (.slice qa P.length qc) := keeps_of_below hb6 _ _ c6
        have HBc := Lib.hid (HBb.out.trans (hb6.mono HBb.out.size))
        have HQ7 := Lib.hid (HQ6.out.below hb6)
        clear hb6 c6
        go_wp2_with fail
        refine (HPR.out w6 ((HLAY.out.below HB4.out).below HBc.out)).mono ?_
        rintro e7 w7 ⟨uv, rfl, hu, hb7⟩
        obtain ⟨ua, uc, rfl⟩ := own_rules hu
        have b8 : Below w7.heap.size w7 (w7.alloc (.cells #[.slice ua P.length uc] 24)) := (Below.refl _ _).alloc (Nat.le_refl _) _
        have HU := Lib.hid (hu.below b8)
        have b78 : Below w6.heap.size w6 (w7.alloc (.cells #[.slice ua P.length uc] 24)) := hb7.trans (b8.mono hb7.size)
        have HQ8 := Lib.hid (HQ7.out.below b78)
        have HBd := Lib.hid (HBc.out.trans (b78.mono HBc.out.size))
        have c8 : (w7.alloc (.cells #[.slice ua P.length uc] 24)).cell? ⟨wr.heap.size, 0, none⟩ = some (.slice qa P.length qc) := keeps_of_below b78 _ _ c7
        have hlt8 : wr.heap.size < w7.heap.size := Nat.lt_of_lt_of_le (World.block_lt_of_cell? _ _ c7) hb7.size
        clear hu hb7 b8 b78 c7
        go_wp2_with fail
        refine (HSM.out _ _ HQ8.out HU.out).mono ?_
        rintro e8 w8 ⟨rfl, hb8⟩
        have HBe := Lib.hid (HBd.out.trans (hb8.mono HBd.out.size))
        have dd : decide (P = P) = true := decide_eq_true rfl
        rw [dd]
        clear hb8
        go_wp2_with fail
        exact ⟨⟨k + 1, by go_num, by omega, HBe.out⟩, by simp only [intOf]; omega⟩
end Go.Proofs.YteilaajjpjhijaaDoor
