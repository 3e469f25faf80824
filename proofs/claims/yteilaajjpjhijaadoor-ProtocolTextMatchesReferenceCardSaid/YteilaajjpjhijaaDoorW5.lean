/- Walk of the least of some counts. -/
import Derived.Test.YteilaajjpjhijaaDoorW4
import Derived.Laws.CopyOwn
namespace Go.Proofs.YteilaajjpjhijaaDoor
open Go.RowKit PSpec

/-- v reads as the list of counts cs -/
def Cnts (w : World) (v : Value) (cs : List (Nat → Int)) : Prop :=
  ∃ a cap, v = .slice a cs.length cap ∧ cs.length ≤ cap ∧ cap ≤ maxLen ∧
    (cs ≠ [] → ∃ b o, a = some ⟨b, o, none⟩ ∧ ∀ i c, cs[i]? = some c → w.rangeAt b (o + i * 12) (arrL c))
theorem Cnts.keep {w w' : World} {v : Value} {xs : List (Nat → Int)} (h : Cnts w v xs) (k : Keeps w w') : Cnts w' v xs := by
  obtain ⟨a, cap, hv, h1, h2, h4⟩ := h
  refine ⟨a, cap, hv, h1, h2, fun hne => ?_⟩
  obtain ⟨b, o, e, hc⟩ := h4 hne
  exact ⟨b, o, e, fun i x hx j u hu => k _ _ (hc i x hx j u hu)⟩

def minC (m : Nat → Int) (cs : List (Nat → Int)) : Nat → Int := cs.foldl (fun m c => if cmpC c m < 0 then c else m) m

theorem wpList_loadMid66 {ops : Array Oper} {rest : List Oper} {o : Oper} {a : Act} {w : World} {Q : Exit → Act → World → Prop} (hgd : o.guard = none) (x : Operand) (ho : o.op = .load 66 x)
    (b f : Nat) (hx : a.eval x = .pointer (some ⟨b, f, none⟩)) (c : Nat → Int) (hr : w.rangeAt b f (arrL c))
    (h : wpList Tryd.prog ops Q rest (a.put o.dst (.agg (arrC c))) w) : wpList Tryd.prog ops Q (o :: rest) a w :=
  wpList_load_mid hgd 66 x ho b f hx (arrL c) _ hr Tryd.underlying66 rfl (by rw [arrL_len]; exact info66) h

theorem minC_small (m : Nat → Int) (cs : List (Nat → Int)) (hm : Small m) (h : ∀ c, c ∈ cs → Small c) : Small (minC m cs) := by
  induction cs generalizing m with
  | nil => exact hm
  | cons c cs ih =>
    simp only [minC, List.foldl_cons]
    refine ih _ ?_ (fun d hd => h d (by simp [hd]))
    split
    · exact h c (by simp)
    · exact hm
theorem minC_snoc (m : Nat → Int) (cs : List (Nat → Int)) (k : Nat) (x : Nat → Int) (hx : cs[k]? = some x) :
    minC m (cs.take (k + 1)) = if cmpC x (minC m (cs.take k)) < 0 then x else minC m (cs.take k) := by
  rw [List.take_add_one, hx]
  simp [minC, List.foldl_append]
  rfl

structure MinS (w0 : World) (b f : Nat) (x m : Nat → Int) (w : World) : Prop where
  ran : w.rangeAt b f (arrL x)
  row : rowC w (w0.heap.size + 1) = arrC m
  zero : rowC w w0.heap.size = arrC fun _ => 0
  size : w0.heap.size + 1 < w.heap.size
  bel : Below w0.heap.size w0 w
theorem MinS.keep {w0 w w' : World} {b f : Nat} {x m : Nat → Int} (h : MinS w0 b f x m w) (hb : Below w.heap.size w w') : MinS w0 b f x m w' :=
  ⟨range_below h.ran hb, (rowC_below hb h.size).trans h.row, (rowC_below hb (by have := h.size; omega)).trans h.zero, Nat.lt_of_lt_of_le h.size hb.size, h.bel.trans (hb.mono (by have := h.size; omega))⟩
theorem MinS.drew {w0 w : World} {b f : Nat} {x m : Nat → Int} (h : MinS w0 b f x m w) : MinS w0 b f x m w.drew :=
  ⟨h.ran, h.row, h.zero, h.size, h.bel.drew⟩

set_option maxHeartbeats 2000000 in
theorem f34_any (v : Value) (c0 : Nat → Int) (cs : List (Nat → Int)) (hs : ∀ c, c ∈ c0 :: cs → Small c) (w : World) (hv : Cnts w v (c0 :: cs)) (hlen : cs.length ≤ 1000) :
    Calls Tryd.prog 34 #[v, .func (.func 35) #[] #[]] w fun e w' => e = .returned (.agg (arrC (minC c0 cs))) ∧ Below w.heap.size w w' := by
  obtain ⟨a, cap, rfl, h1, h2, h3⟩ := hv
  obtain ⟨b, o, rfl, hc⟩ := h3 (by simp)
  unfold maxLen at h2
  have hc0 := hc 0 c0 rfl
  simp only [Nat.zero_mul, Nat.add_zero] at hc0
  have hcc : ∀ o1 : Obj, (w.alloc o1).rangeAt b o (arrL c0) := fun o1 => range_below hc0 ((Below.refl _ _).alloc (Nat.le_refl _) _)
  have hz1 : rowC ((w.alloc (.cells (arrC fun _ => 0) 66)).alloc (.cells (arrC fun _ => 0) 66)) (w.heap.size + 1) = arrC fun _ => 0 := by go_simp
  simp only [List.length_cons] at h1 ⊢
  have hd : decide ((cs.length : Int) + 1 < 1) = false := by simp; omega
  go_enter Tryd.func34, Tryd.ntmps34
  go_wp2_with (first | (refine wpList_loadMid66 rfl _ rfl b o rfl c0 (hcc _) ?_) | (refine wpList_store66 rfl _ _ rfl (w.heap.size + 1) (arrC c0) _ rfl rfl hz1 (arrC_size _) (arrC_size _) (arrC_cells1 _) ?_))
  clear hz1 hcc
  go_loopw [6] (fun i wr => ∃ j : Nat, 1 ≤ j ∧ j ≤ cs.length + 1 ∧ i = .int .i64 j ∧ rowC wr (w.heap.size + 1) = arrC (minC c0 (cs.take (j - 1))) ∧ (rowC wr w.heap.size = arrC fun _ => 0) ∧ w.heap.size + 1 < wr.heap.size ∧ Below w.heap.size w wr) (fun i _ => cs.length + 1 - (intOf i).toNat)
  case atStart => exact ⟨1, by omega, by omega, rfl, by go_simp; rfl, by go_simp; rfl, by simp, ((Below.refl _ _).alloc (Nat.le_refl _) _).alloc (by simp) _⟩
  case round =>
    obtain ⟨j, hj1, hj, rfl, hm, hz, hsz, hb⟩ := hrel
    by_cases hlt : j < cs.length + 1
    · obtain ⟨x, hx⟩ := get_some cs (j - 1) (by omega)
      have hx' : (c0 :: cs)[j]? = some x := by
        obtain ⟨j', rfl⟩ : ∃ j', j = j' + 1 := ⟨j - 1, by omega⟩
        simpa using hx
      have hS : MinS w b (o + j * 12) x (minC c0 (cs.take (j - 1))) wr := ⟨fun i v hv => keeps_of_below hb _ _ (hc j x hx' i v hv), hm, hz, hsz, hb⟩
      have HS := Lib.hid hS.drew
      have HX := Lib.hid hx
      clear hS hm hz hb hx hx' hc hc0
      go_wp2_with fail
      refine wp_region_ord [(0, true), (1, true), (2, true), (3, true), (4, true), (5, true), (6, false), (7, true)] _
        (by kernel_rfl) (by kernel_rfl) rfl (by kernel_rfl) (fun _ _ d _ _ h => by cases d <;> exact h) HS.out ?_
      refine wpO_light _ rfl rfl _ (fun w' _ => by go_simp; rfl) ?_
      refine wpO_light _ rfl rfl _ (fun w' _ => by go_simp; rfl) ?_
      refine wpO_light _ rfl rfl _ (fun w' _ => by go_simp; rfl) ?_
      refine wpO_light _ rfl rfl _ (fun w' _ => by go_simp; rfl) ?_
      refine wpO_light _ rfl rfl _ (run_loadMid66 _ rfl _ _ rfl _ fun w hS => hS.ran) ?_
      refine wpO_light _ rfl rfl _ (run_load66 _ rfl _ rfl _ (arrC_size _) fun w hS => hS.row) ?_
      have hsx : Small x := hs x (by simp [List.mem_of_getElem? HX.out])
      have hsm : Small (minC c0 (cs.take (j - 1))) := minC_small _ _ (hs c0 (by simp)) (fun d hd => hs d (by simp [List.mem_of_mem_take hd]))
      have HM := Lib.hid (minC_snoc c0 cs (j - 1) x HX.out)
      generalize hmm : minC c0 (cs.take (j - 1)) = m at *
      refine wpO_heavy _ rfl rfl fun K' hK => ?_
      go_simp
      refine (f35_any _ _ hsx hsm _).mono ?_
      rintro e w1 ⟨rfl, hb1⟩
      have HS1 := Lib.hid (HS.out.keep hb1)
      refine hK _ _ ⟨HS1.out, ?_⟩
      clear hK hb1 HS K'
      refine wpO_light _ rfl rfl _ (fun w' _ => by go_simp; rfl) ?_
      refine wpO_nil ?_
      have hrow := HS1.out.row
      have hran := HS1.out.ran
      have e1 : cs.take j = cs.take (j - 1 + 1) := by rw [show j - 1 + 1 = j by omega]
      have E1 := Lib.hid e1
      clear e1
      by_cases hc : cmpC x m < 0
      · go_wp2_with (first | (refine wpList_loadMid66 rfl _ rfl _ _ rfl x hran ?_) | (refine wpList_store66 rfl _ _ rfl (w.heap.size + 1) (arrC x) _ rfl rfl hrow (arrC_size _) (arrC_size _) (arrC_cells1 _) ?_))
        go_roundw
        case rel =>
          have hs2 := HS1.out.size
          exact ⟨j + 1, by omega, by omega, by go_num, by rw [rowC_setRow _ (by rw [hrow, arrC_size]; omega), Nat.add_sub_cancel, E1.out, HM.out, if_pos hc], by rw [rowC_setRow_other _ (by omega)]; exact HS1.out.zero, by simpa using hs2, below_setRow HS1.out.bel (by omega) _⟩
        case measure => simp [intOf]; omega
      · go_wp2_with fail
        go_roundw
        case rel =>
          have hs2 := HS1.out.size
          exact ⟨j + 1, by omega, by omega, by go_num, by rw [Nat.add_sub_cancel, E1.out, HM.out, if_neg hc]; exact hrow, HS1.out.zero, hs2, HS1.out.bel⟩
        case measure => simp [intOf]; omega
    · have hj2 : j = cs.length + 1 := by omega
      subst hj2
      rw [Nat.add_sub_cancel, List.take_length] at hm
      go_wp2_with (first | (refine wpList_load66 rfl _ rfl _ rfl _ hm (arrC_size _) ?_) | (refine wpList_store66 rfl _ _ rfl w.heap.size _ _ rfl rfl hz (arrC_size _) (arrC_size _) (arrC_cells1 _) ?_))
      obtain ⟨t, ht⟩ := rowC_heap (w := wr.setRow w.heap.size (arrC (minC c0 cs))) (g := w.heap.size) (by rw [rowC_setRow _ (by rw [hz, arrC_size]; omega), arrC_size]; omega)
      rw [rowC_setRow _ (by rw [hz, arrC_size]; omega)] at ht
      refine bodyPost_ret (results_cell_row rfl _ _ w.heap.size t _ _ _ rfl ht Tryd.underlying66 rfl (by rw [arrC_size]; exact info66)) rfl ⟨rfl, below_setRow hb (Nat.le_refl _) _⟩
end Go.Proofs.YteilaajjpjhijaaDoor
