/- Walk of sane: the chapter's examples. -/
import Derived.Test.YteilaajjpjhijaaDoorSo
namespace Go.Proofs.YteilaajjpjhijaaDoor
open Go.RowKit PSpec

structure SS (w W : World) : Prop where
  rules : Rules W (.slice (some ⟨w.heap.size + 1 + 1, 0, none⟩) 2 2) sP
  prot : W.cell? ⟨w.heap.size + 1 + 1 + 1, 0, none⟩ = some (.slice (some ⟨w.heap.size + 1 + 1, 0, none⟩) 2 2)
  lists : ∀ k, k < 6 → ∃ vl vw, W.cell? ⟨w.heap.size + 1 + 1 + 1 + 1 + 1 + 1 + 1 + 1 + 1, k, none⟩ = some vl ∧ Ints W vl (allL.getD k []) ∧ W.cell? ⟨w.heap.size + 1 + 1 + 1 + 1 + 1 + 1 + 1 + 1 + 1 + 1 + 1 + 1 + 1 + 1, k, none⟩ = some vw ∧ Ints W vw (wantL.getD k [])
  low : Below w.heap.size w W
  lay : Lay W
theorem SS.keep {w W W' : World} (h : SS w W) (hb : Below W.heap.size W W') : SS w W' := by
  have k := keeps_of_below hb
  refine ⟨h.rules.below hb, k _ _ h.prot, fun i hi => ?_, h.low.trans (hb.mono h.low.size), h.lay.below hb⟩
  obtain ⟨vl, vw, h1, h2, h3, h4⟩ := h.lists i hi
  exact ⟨vl, vw, k _ _ h1, h2.below hb, k _ _ h3, h4.below hb⟩
theorem SS.start {w : World} (hl : Lay w) : SS w (sW w) := by
  have hb : Below w.heap.size w (sW w) := allocs_below _ w _ (Nat.le_refl _)
  exact ⟨sW_rules w, (cell_of_row (sW w) (w.heap.size + 3) 0 _ _ _ (allocs_at (sObjs w) w 3 _ rfl)).trans rfl, sW_lists w, hb, hl.below hb⟩

theorem mcall {p : Pr} {op n : Int} {ch l : List Int} (hm : matchF p op ch = (l, n)) (pv cv : Value) (w : World) (hp : Rules w pv p) (hcv : Ints w cv ch) :
    Calls Tryd.prog 15 #[.agg #[pv], .int .i64 op, cv] w fun e w' => ∃ v, e = .returned (.tuple #[v, .int .i64 n]) ∧ Ints w' v l ∧ Below w.heap.size w w' := by
  have := f15_any pv cv p op ch w hp hcv
  unfold MatchPost at this
  rw [hm] at this
  exact this

set_option maxRecDepth 100000 in
set_option maxHeartbeats 4000000 in
theorem f10_any (w : World) (hlay : Lay w) : Calls Tryd.prog 10 #[] w fun e w' => e = .returned (.bool true) ∧ Below w.heap.size w w' := by
  have HS0 := Lib.hid (SS.start hlay)
  clear hlay
  go_enter Tryd.func10, Tryd.ntmps10
  go_wp2_with fail
  change Code.wp Tryd.prog _ _ _ (sW w)
  go_loopw [4] (fun i wr => ∃ k : Nat, k ≤ 6 ∧ i = .int .i64 k ∧ SS w wr) (fun i _ => 6 - (intOf i).toNat)
  case atStart => exact ⟨0, by omega, rfl, HS0.out⟩
  case round =>
    obtain ⟨k, hk, rfl, hS⟩ := hrel
    have HS := Lib.hid hS
    have HB := Lib.hid hS.low
    clear hS HS0
    by_cases hlt : k < 6
    · have dk : decide ((k : Int) < 6) = true := by simp; omega
      have k0 : (0 : Int) ≤ (k : Int) := by omega
      have k1 : (k : Int) < 6 := by omega
      go_wp2_with fail
      obtain ⟨vl, vw, l1, l2, l3, l4⟩ := HS.out.lists k hlt
      have p0 := HS.out.prot
      have L2 := Lib.hid l2
      have L4 := Lib.hid l4
      have L3 := Lib.hid l3
      have l1H := Lib.hid l1
      have hSd : Hid (SS w wr.drew) := HS.out.keep (Below.refl _ _).drew
      have hm := f15_any (.slice (some ⟨w.heap.size + 1 + 1, 0, none⟩) 2 2) vl sP 0 (allL.getD k []) wr.drew hSd.out.rules (l2.below (Below.refl _ _).drew)
      unfold MatchPost at hm
      rw [s_match k hlt] at hm
      have HM := Lib.hid hm
      clear hm l2 l3 l4
      refine wp_region_ord [(0, true), (1, true), (2, true), (3, true), (4, true), (5, false), (6, true), (7, true), (8, true), (9, true), (10, true)] (fun w' => w'.cell? ⟨w.heap.size + 1 + 1 + 1, 0, none⟩ = some (.slice (some ⟨w.heap.size + 1 + 1, 0, none⟩) 2 2) ∧ w'.cell? ⟨w.heap.size + 1 + 1 + 1 + 1 + 1 + 1 + 1 + 1 + 1, k, none⟩ = some vl)
        (by kernel_rfl) (by kernel_rfl) rfl (by kernel_rfl) (fun _ _ d _ _ h => by cases d <;> exact h) ⟨p0, l1⟩ ?_
      refine wpO_light _ rfl rfl _ (fun w' hS => by obtain ⟨s1, s2⟩ := hS; go_simp; rfl) ?_
      refine wpO_light _ rfl rfl _ (fun w' hS => by go_simp; rfl) ?_
      refine wpO_light _ rfl rfl _ (fun w' hS => by go_simp; rfl) ?_
      refine wpO_light _ rfl rfl _ (fun w' hS => by go_simp; rfl) ?_
      refine wpO_light _ rfl rfl _ (fun w' hS => by obtain ⟨s1, s2⟩ := hS; go_simp; rfl) ?_
      refine wpO_heavy _ rfl rfl fun K' hK => ?_
      go_simp
      refine HM.out.mono ?_
      rintro e w1 ⟨v, rfl, hv, hb1⟩
      have HS1 : Hid (SS w w1) := hSd.out.keep hb1
      refine hK _ _ ⟨⟨HS1.out.prot, keeps_of_below hb1 _ _ l1⟩, ?_⟩
      have HV := Lib.hid hv
      have HB1 := Lib.hid hb1
      clear hK K' hv hb1 p0 l1
      refine wpO_light _ rfl rfl _ (fun w' hS => by go_simp; rfl) ?_
      refine wpO_light _ rfl rfl _ (fun w' hS => by go_simp; rfl) ?_
      refine wpO_light _ rfl rfl _ (fun w' hS => by go_simp; rfl) ?_
      refine wpO_light _ rfl rfl _ (fun w' hS => by go_simp; rfl) ?_
      refine wpO_light _ rfl rfl _ (fun w' hS => by go_simp; rfl) ?_
      refine wpO_nil ?_
      go_wp2_with fail
      obtain ⟨wa, wc, rfl, w1', w2', w3', w4'⟩ := HV.out
      clear w1' w2' w3' w4'
      obtain ⟨va, vc, hvw, _, _, _, _⟩ := L4.out
      have HD : Hid (SS w w1.drew) := HS1.out.keep (Below.refl _ _).drew
      have kk := keeps_of_below (HB1.out.mono (Nat.le_refl _))
      have l1' : w1.cell? ⟨w.heap.size + 1 + 1 + 1 + 1 + 1 + 1 + 1 + 1 + 1, k, none⟩ = some vl := keeps_of_below HB1.out _ _ l1H.out
      have l3' : w1.cell? ⟨w.heap.size + 1 + 1 + 1 + 1 + 1 + 1 + 1 + 1 + 1 + 1 + 1 + 1 + 1 + 1, k, none⟩ = some vw := keeps_of_below HB1.out _ _ L3.out
      have hL4 : Ints w1.drew vw (wantL.getD k []) := (L4.out.keep (keeps_of_below (Below.refl _ _).drew)).keep (keeps_of_below (HB1.out.drew))
      have hL2 : Ints w1.drew vl (allL.getD k []) := (L2.out.keep (keeps_of_below (Below.refl _ _).drew)).keep (keeps_of_below (HB1.out.drew))
      have hi := f17_any _ vw (wantL.getD k []) (wantL.getD k []) w1.drew (HV.out.keep (keeps_of_below (Below.refl _ _).drew)) hL4
      rw [decide_eq_true rfl] at hi
      have ha := fun W (h1 : Rules W (.slice (some ⟨w.heap.size + 1 + 1, 0, none⟩) 2 2) sP) (h2 : Ints W vl (allL.getD k [])) => f18_any _ vl sP 0 (allL.getD k []) W h1 h2
      obtain ⟨q, hq⟩ : ∃ q : Bool, q = (wantL.getD k []).isEmpty := ⟨_, rfl⟩
      have hacc : accB sP 0 (allL.getD k []) = q := by unfold accB; rw [s_match k hlt, hq]; rfl
      rw [hacc] at ha
      have hlq : (((wantL.getD k []).length : Int) == 0) = q := by
        rw [hq]
        cases wantL.getD k [] with
        | nil => rfl
        | cons a l => simp; omega
      have hqq : (q != q) = false := by cases q <;> rfl
      have HI := Lib.hid hi
      have HA := Lib.hid ha
      have HL2 := Lib.hid hL2
      have HVW := Lib.hid hvw
      have HK6 := Lib.hid hlt
      clear hi ha hacc hq hL4 hL2 kk
      subst hvw
      refine wp_region_ord [(0, true), (1, true), (2, true), (3, true), (4, true), (5, true), (6, true), (7, true), (8, false), (9, true), (10, true), (11, true), (12, true), (13, true), (14, true), (15, true), (16, true), (18, true), (19, true), (20, true), (21, true), (22, true), (23, true), (17, false), (24, true), (25, true)]
        (fun w' => w'.cell? ⟨w.heap.size + 1 + 1 + 1, 0, none⟩ = some (.slice (some ⟨w.heap.size + 1 + 1, 0, none⟩) 2 2) ∧ w'.cell? ⟨w.heap.size + 1 + 1 + 1 + 1 + 1 + 1 + 1 + 1 + 1, k, none⟩ = some vl ∧ w'.cell? ⟨w.heap.size + 1 + 1 + 1 + 1 + 1 + 1 + 1 + 1 + 1 + 1 + 1 + 1 + 1 + 1, k, none⟩ = some (.slice va (wantL.getD k []).length vc))
        (by kernel_rfl) (by kernel_rfl) rfl (by kernel_rfl) (fun _ _ d _ _ h => by cases d <;> exact h) ⟨HS1.out.prot, l1', l3'⟩ ?_
      refine wpO_light _ rfl rfl _ (fun w' hS => by go_simp; rfl) ?_
      refine wpO_light _ rfl rfl _ (fun w' hS => by go_simp; rfl) ?_
      refine wpO_light _ rfl rfl _ (fun w' hS => by go_simp; rfl) ?_
      go_simp
      refine wpO_light _ rfl rfl _ (fun w' hS => by go_simp; rfl) ?_
      refine wpO_light _ rfl rfl _ (fun w' hS => by go_simp; rfl) ?_
      refine wpO_light _ rfl rfl _ (fun w' hS => by go_simp; rfl) ?_
      go_simp
      refine wpO_light _ rfl rfl _ (fun w' hS => by go_simp; rfl) ?_
      refine wpO_light _ rfl rfl _ (fun w' hS => by obtain ⟨s1, s2, s3⟩ := hS; go_simp; rfl) ?_
      go_simp
      refine wpO_heavy _ rfl rfl fun K' hK => ?_
      go_simp
      refine HI.out.mono ?_
      rintro e w2 ⟨rfl, hb2⟩
      have HS2 : Hid (SS w w2) := HD.out.keep hb2
      have k2 := keeps_of_below hb2
      have l1'' := k2 _ _ l1'
      have l3'' := k2 _ _ l3'
      refine hK _ _ ⟨⟨HS2.out.prot, l1'', l3''⟩, ?_⟩
      have HB2 := Lib.hid hb2
      clear hK K' hb2 k2 l1' l3'
      go_simp
      refine wpO_light _ rfl rfl _ (fun w' hS => by go_simp; rfl) ?_
      refine wpO_light _ rfl rfl _ (fun w' hS => by go_simp; rfl) ?_
      refine wpO_light _ rfl rfl _ (fun w' hS => by go_simp; rfl) ?_
      go_simp
      refine wpO_light _ rfl rfl _ (fun w' hS => by obtain ⟨s1, s2, s3⟩ := hS; go_simp; rfl) ?_
      refine wpO_light _ rfl rfl _ (fun w' hS => by go_simp; rfl) ?_
      refine wpO_light _ rfl rfl _ (fun w' hS => by go_simp; rfl) ?_
      go_simp
      refine wpO_light _ rfl rfl _ (fun w' hS => by go_simp; rfl) ?_
      refine wpO_light _ rfl rfl _ (fun w' hS => by obtain ⟨s1, s2, s3⟩ := hS; go_simp; rfl) ?_
      go_simp
      refine wpO_light _ rfl rfl _ (fun w' hS => by go_simp; rfl) ?_
      refine wpO_light _ rfl rfl _ (fun w' hS => by go_simp; rfl) ?_
      refine wpO_light _ rfl rfl _ (fun w' hS => by go_simp; rfl) ?_
      go_simp
      refine wpO_light _ rfl rfl _ (fun w' hS => by obtain ⟨s1, s2, s3⟩ := hS; go_simp; rfl) ?_
      refine wpO_light _ rfl rfl _ (fun w' hS => by go_simp; rfl) ?_
      refine wpO_light _ rfl rfl _ (fun w' hS => by go_simp; rfl) ?_
      go_simp
      refine wpO_heavy _ rfl rfl fun K' hK => ?_
      go_simp
      refine (HA.out _ HS2.out.rules (HL2.out.keep (keeps_of_below HB2.out))).mono ?_
      rintro e w3 ⟨rfl, hb3⟩
      have HS3 : Hid (SS w w3) := HS2.out.keep hb3
      refine hK _ _ ⟨⟨HS3.out.prot, keeps_of_below hb3 _ _ l1'', keeps_of_below hb3 _ _ l3''⟩, ?_⟩
      clear hK K' hb3 l1'' l3''
      go_simp
      refine wpO_light _ rfl rfl _ (fun w' hS => by go_simp; rfl) ?_
      refine wpO_light _ rfl rfl _ (fun w' hS => by go_simp; rfl) ?_
      refine wpO_nil ?_
      go_wp2_with fail
      · rename_i h
        have hq2 : (((wantL[k]?.getD []).length : Int) == 0) = q := hlq
        rw [hq2] at h
        cases q <;> simp at h
      · exact ⟨⟨k + 1, by omega, congrArg _ (by omega), HS3.out⟩, by simp only [intOf]; omega⟩
    · obtain rfl : k = 6 := by omega
      have c0 := HS.out.prot
      go_wp2_with fail
      have ha : SS w (wr.alloc (.cells #[.int .i64 2, .int .i64 2, .int .i64 2, .int .i64 2] 3)) := HS.out.keep ((Below.refl _ _).alloc (Nat.le_refl _) _)
      refine (mcall s_m1 _ _ _ ha.rules (ints_row [2, 2, 2, 2] 4 rfl (World.alloc_heap_new _ _) (by decide) (small_I64 rfl))).mono ?_
      rintro e w1 ⟨v1, rfl, hv1, hb1⟩
      have HS1 : Hid (SS w w1) := ha.keep hb1
      have HV1 := Lib.hid hv1
      have c1 := HS1.out.prot
      clear ha hb1 hv1 c0
      go_wp2_with fail
      have ha : SS w (w1.alloc (.cells #[.int .i64 1, .int .i64 3] 3)) := HS1.out.keep ((Below.refl _ _).alloc (Nat.le_refl _) _)
      refine (mcall s_m2 _ _ _ ha.rules (ints_row [1, 3] 2 rfl (World.alloc_heap_new _ _) (by decide) (small_I64 rfl))).mono ?_
      rintro e w2 ⟨v2, rfl, hv2, hb2⟩
      have HS2 : Hid (SS w w2) := ha.keep hb2
      have HV2 := Lib.hid hv2
      have c2 := HS2.out.prot
      clear ha hb2 hv2 c1
      go_wp2_with fail
      have ha : SS w (w2.alloc (.cells #[.int .i64 7, .int .i64 0] 3)) := HS2.out.keep ((Below.refl _ _).alloc (Nat.le_refl _) _)
      refine (mcall s_m3 _ _ _ ha.rules (ints_row [7, 0] 2 rfl (World.alloc_heap_new _ _) (by decide) (small_I64 rfl))).mono ?_
      rintro e w3 ⟨v3, rfl, hv3, hb3⟩
      have HS3 : Hid (SS w w3) := ha.keep hb3
      have HV3 := Lib.hid hv3
      have c3 := HS3.out.prot
      clear ha hb3 hv3 c2
      go_wp2_with fail
      obtain ⟨a3, k3, rfl, z1, z2, z3, z4⟩ := HV3.out
      clear z1 z2 z3 z4
      refine (mcall s_m4 _ _ _ HS3.out.rules (ints_nil _)).mono ?_
      rintro e w4 ⟨v4, rfl, _, hb4⟩
      have HS4 : Hid (SS w w4) := HS3.out.keep hb4
      have c4 := HS4.out.prot
      clear hb4 c3
      go_wp2_with fail
      refine (f22_any _ sP _ HS4.out.rules).mono ?_
      unfold PrintPost
      rw [s_print]
      rintro e w5 ⟨rfl, hb5⟩
      have HS5 : Hid (SS w w5) := HS4.out.keep hb5
      have c5 := HS5.out.prot
      clear hb5 c4
      dsimp only
      go_wp2_with fail
      refine (f24_any sText _ (by decide) HS5.out.lay).mono ?_
      unfold ParsePost
      rw [s_parse]
      rintro e w6 ⟨pv, rfl, hpv, hb6⟩
      dsimp only at hpv
      have HPV := Lib.hid hpv
      obtain ⟨pa, pc, rfl, z1, z2, z3⟩ := hpv
      clear z1 z2 z3
      have HS6 : Hid (SS w w6) := HS5.out.keep hb6
      clear hb6 c5
      dsimp only
      have hsz : (bsA sText).size = 30 := by rw [bsA_size]; rfl
      have hex : (bsA sText).extract 0 29 = bsA sCut := bsA_take sText 29
      have HS7 : Hid (SS w (w6.alloc (.cells #[.slice pa sP.length pc] 24))) := HS6.out.keep ((Below.refl _ _).alloc (Nat.le_refl _) _)
      have HPV7 : Hid (Rules (w6.alloc (.cells #[.slice pa sP.length pc] 24)) (.slice pa sP.length pc) sP) := HPV.out.below ((Below.refl _ _).alloc (Nat.le_refl _) _)
      have h17 : (w6.alloc (.cells #[.slice pa sP.length pc] 24)).cell? ⟨w6.heap.size, 0, none⟩ = some (.slice pa sP.length pc) := by go_simp
      have H17 := Lib.hid h17
      have HEX := Lib.hid hex
      clear h17 hex
      go_wp2_with fail
      rw [HEX.out]
      refine (f24_any sCut _ (by decide) HS7.out.lay).mono ?_
      unfold ParsePost
      rw [s_cut]
      rintro e w8 ⟨pv2, rfl, hpv2, hb8⟩
      dsimp only at hpv2
      obtain ⟨qa, qc, rfl, z1, z2, z3⟩ := hpv2
      clear z1 z2 z3
      have HS8 : Hid (SS w w8) := HS7.out.keep hb8
      have HPV8 : Hid (Rules w8 (.slice pa sP.length pc) sP) := HPV7.out.below hb8
      have h17 : w8.cell? ⟨w6.heap.size, 0, none⟩ = some (.slice pa sP.length pc) := keeps_of_below hb8 _ _ H17.out
      have hal : Below w8.heap.size w8 (w8.alloc (.cells #[.slice qa 0 qc] 24)) := (Below.refl _ _).alloc (Nat.le_refl _) _
      have HS9 : Hid (SS w (w8.alloc (.cells #[.slice qa 0 qc] 24))) := HS8.out.keep hal
      have HPV9 : Hid (Rules (w8.alloc (.cells #[.slice qa 0 qc] 24)) (.slice pa sP.length pc) sP) := HPV8.out.below hal
      have g17 : (w8.alloc (.cells #[.slice qa 0 qc] 24)).cell? ⟨w6.heap.size, 0, none⟩ = some (.slice pa sP.length pc) := keeps_of_below hal _ _ h17
      have g1 := HS9.out.prot
      have hstr : (bsA sText).toList = sText := isE _
      have hls : sText = [48, 58, 32, 49, 42, 49, 45, 50, 32, 50, 42, 49, 45, 51, 32, 49, 42, 48, 45, 49, 10, 48, 58, 32, 51, 42, 50, 45, 50, 10] := rfl
      rw [hls] at hstr
      clear hb8 h17 hal hls
      dsimp only
      go_wp2_with fail
      refine (f26_any _ _ sP sP _ HS9.out.rules HPV9.out).mono ?_
      unfold SamePost
      rintro e wa ⟨rfl, hba⟩
      rw [decide_eq_true rfl]
      have HSa : Hid (SS w wa) := HS9.out.keep hba
      have ga := HSa.out.prot
      clear hba g1 g17
      go_wp2_with fail
      refine (f20_any _ sP _ HSa.out.rules).mono ?_
      rintro e wb ⟨rfl, hbb⟩
      rw [sP_valid]
      have HSb : Hid (SS w wb) := HSa.out.keep hbb
      clear hbb ga
      go_wp2_with fail
      go_ret
      exact ⟨rfl, HSb.out.low⟩
end Go.Proofs.YteilaajjpjhijaaDoor
