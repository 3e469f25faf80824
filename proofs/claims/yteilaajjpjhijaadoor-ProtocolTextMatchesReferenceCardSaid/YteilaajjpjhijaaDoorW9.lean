/- Walk of divide. -/
import Derived.Test.YteilaajjpjhijaaDoorW8
namespace Go.Proofs.YteilaajjpjhijaaDoor
open Go.RowKit PSpec

theorem leaves_dl {F : Fence} {n : Nat} {P : Program} {fn : Func} {tmps : Array Value} {R : Ending → World → Prop} {B : Nat} (Z : World → Prop)
    (hZ : ∀ D W, Z W → W.heap[D]? = some (.deferred (some [])) → B ≤ D → Z (W.putObj D (.deferred none))) (hend : ∀ W, Z W → LeavesInM F n P fn tmps R [] .returning W) :
    ∀ (ds : List Nat) (W : World), DOK B ds W → Z W → LeavesInM F n P fn tmps R (dl ds) .returning W := by
  intro ds
  induction ds with
  | nil => exact fun W _ h => hend W h
  | cons D ds ih =>
    intro W hd h
    have hD := hd.at_ D (by simp)
    refine ⟨by simp, .inl ⟨D, _, rfl, run_takeDeferred hD.1, ih _ ⟨(List.nodup_cons.1 hd.nd).2, fun D' hD' => ?_⟩ (hZ D W h hD.1 hD.2)⟩⟩
    have h2 := hd.at_ D' (by simp [hD'])
    refine ⟨(World.putObj_heap_other ?_).trans h2.1, h2.2⟩
    rintro rfl
    exact (List.nodup_cons.1 hd.nd).1 hD'

def StepR (x : It) (ch : List Int) (L0 L : LMt) : Prop := ∃ pr : List Nat, pr.Nodup ∧ (∀ i, i ∈ pr → i < L0.length) ∧ (∀ i, i < L0.length → i ∈ pr) ∧ L = midL x ch L0 pr
def Tab (its : List It) (ch : List Int) : Nat → LMt → Prop
  | 0, L => L = [(0, [])]
  | k + 1, L => ∃ L0 x, Tab its ch k L0 ∧ its[k]? = some x ∧ StepR x ch L0 L

def fr1 (iv cv : Value) (h0 b len k : Nat) (u : Nat → Value) : Array Value :=
  #[iv, cv, u 2, u 3, (.pointer (some ⟨h0, 0, none⟩)), (.bool false), (.map (some b)), u 7, u 8, u 9, u 10, u 11, u 12, u 13, u 14, u 15, u 16, u 17, u 18, u 19, u 20, iv, (.int .i64 len), (.int .i64 k), u 24, u 25, u 26, u 27, u 28, u 29, u 30, u 31, u 32, u 33, u 34, u 35, u 36, u 37, u 38, u 39, u 40, u 41, u 42, u 43, u 44, u 45, u 46, u 47, u 48, u 49, u 50, u 51, u 52, u 53, u 54, u 55, u 56, u 57, u 58, u 59, u 60, u 61, u 62, u 63, u 64, u 65, u 66, u 67, u 68, u 69, u 70, u 71, u 72, u 73, u 74, u 75, u 76, u 77, u 78, u 79, u 80, u 81, u 82, u 83, u 84]
structure F1 (w : World) (its : List It) (ch : List Int) (k b h0 : Nat) (LM : LMt) (ds : List Nat) (W : World) : Prop where
  hk : k ≤ its.length
  tab : Tab its ch k LM
  good : GoodM (9 * k) ch.length LM
  now : W.heap[b]? = some (mapObj (cm LM))
  z : rowC W h0 = arrC fun _ => 0
  bel : Below w.heap.size w W
  dok : DOK w.heap.size ds W
def Inv1 (w : World) (its : List It) (ch : List Int) (iv cv : Value) (h0 : Nat) (a : Act) (W : World) : Prop :=
  ∃ (k b : Nat) (LM : LMt) (ds : List Nat) (u : Nat → Value), F1 w its ch k b h0 LM ds W ∧ a = { tmps := fr1 iv cv h0 b its.length k u, defers := dl ds }
def mu1 (n : Nat) (a : Act) (_ : World) : Nat := match a.tmps[23]? with | some (Value.int _ i) => n - i.toNat | _ => 0

def outer1 : Code → Option Code
  | .seq a b => match outer1 a with | some c => some c | none => outer1 b
  | .block _ c => outer1 c
  | .scope c => outer1 c
  | .loop c => some c
  | _ => none
noncomputable def code33o : Code := ((Tryd.f33.body.bind outer1).getD .skip)

set_option maxRecDepth 100000 in
set_option maxHeartbeats 4000000 in
theorem round33o (w : World) (its : List It) (ch : List Int) (iv cv : Value) (h0 : Nat) (hits : Items w iv its) (hall : its.all itB = true) (hlen : its.length ≤ 6) (hcv : Ints w cv ch) (hch : childrenB ch = true)
    (Q : Exit → Act → World → Prop) (a : Act) (W : World) (hI : Inv1 w its ch iv cv h0 a W)
    (hexit : ∀ (b : Nat) (LM : LMt) (ds : List Nat) (u : Nat → Value) (W' : World), F1 w its ch its.length b h0 LM ds W' → Q (.exit 0) { tmps := fr1 iv cv h0 b its.length its.length u, defers := dl ds } W') :
    code33o.wpIn Fence.wide 0 Tryd.prog (Exit.then (fun a' W' => Inv1 w its ch iv cv h0 a' W' ∧ mu1 its.length a' W' < mu1 its.length a W) Q) a W := by
  obtain ⟨k, b, LM, ds, u, hF, rfl⟩ := hI
  have hFn : ∀ f, Fence.wide.fn f := fun _ => trivial
  unfold code33o
  dsimp only [outer1, Tryd.f33, Option.getD, Option.bind]
  unfold fr1
  have HF := Lib.hid hF
  have hkk := hF.hk
  clear hF
  rcases Nat.lt_or_ge k its.length with hlt | hge
  · obtain ⟨a0, cap, rfl, hcl, hcm, hcc⟩ := hits
    obtain ⟨bb, oo, rfl, hcells⟩ := hcc (by intro h; rw [h] at hlt; simp at hlt)
    obtain ⟨x, hxk⟩ : ∃ x, its[k]? = some x := ⟨its[k], List.getElem?_eq_getElem hlt⟩
    have hxB : itB x = true := List.all_eq_true.1 hall x (List.mem_of_getElem? hxk)
    have kp := keeps_of_below HF.out.bel
    obtain ⟨c0, c1, c2⟩ := (hcells k x hxk).keep kp
    have HX := Lib.hid hxk
    have hdec : decide (k < its.length) = true := by simpa using hlt
    clear hxk hcells kp hcc
    have hmm := @run_makeMap Tryd.prog
    have bA : ∀ o1 o2 o3 : Obj, Below W.heap.size W (((W.alloc o1).alloc o2).alloc o3) := fun o1 o2 o3 => (((Below.refl _ _).alloc (Nat.le_refl _) _).alloc (by simp) _).alloc (by simp; omega) _
    have HN := Lib.hid (fun o1 o2 o3 => ((bA o1 o2 o3).block _ (lt_of_heap HF.out.now)).trans HF.out.now)
    have BA := Lib.hid bA
    clear bA
    gi_wp2_with (refine wpListIn_range hFn rfl _ rfl b (cm LM) rfl (HN.out _ _ _) ?_)
    have hz3 : ∀ o1 o2 o3 o4 : Obj, ((((W.alloc o1).alloc o2).alloc o3).alloc o4).heap.size = W.heap.size + 4 := fun _ _ _ _ => by simp
    have hF2 : F2 w x LM h0 b (W.heap.size + 1) W.heap.size (W.heap.size + 2) (W.heap.size + 3) ds [] (midL x ch LM []) ((((W.alloc (.cells #[.int .i64 x.1, .int .i64 x.2.1, .int .i64 x.2.2] 59)).alloc (.map #[] 0)).alloc (.cells #[.map (some (W.heap.size + 1))] 96)).alloc (itObj b (cm LM) [])) := by
      have hB := (BA.out (.cells #[.int .i64 x.1, .int .i64 x.2.1, .int .i64 x.2.2] 59) (.map #[] 0) (.cells #[.map (some (W.heap.size + 1))] 96)).alloc (by simp; omega) (itObj b (cm LM) [])
      have hlb := lt_of_heap HF.out.now
      have hw := HF.out.bel.size
      refine ⟨?_, (hB.block _ hlb).trans HF.out.now, ?_, by go_simp, by go_simp, by go_simp, by go_simp, (rowC_below hB (rowC_lt (by rw [HF.out.z, arrC_size]; omega))).trans HF.out.z, HF.out.bel.trans (hB.mono hw), HF.out.dok.below hB, by omega, by omega, by omega⟩
      · have := World.alloc_heap_new (((W.alloc (.cells #[.int .i64 x.1, .int .i64 x.2.1, .int .i64 x.2.2] 59)).alloc (.map #[] 0)).alloc (.cells #[.map (some (W.heap.size + 1))] 96)) (itObj b (cm LM) [])
        have e3 : W.heap.size + 3 = (((W.alloc (.cells #[.int .i64 x.1, .int .i64 x.2.1, .int .i64 x.2.2] 59)).alloc (.map #[] 0)).alloc (.cells #[.map (some (W.heap.size + 1))] 96)).heap.size := by simp
        rw [e3]; exact this
      · refine (Below.heap_alloc _ _ _ (by simp)).trans ((Below.heap_alloc _ _ _ (by simp)).trans ?_)
        have := World.alloc_heap_new (W.alloc (.cells #[.int .i64 x.1, .int .i64 x.2.1, .int .i64 x.2.2] 59)) (.map #[] 0)
        rw [World.size_alloc] at this
        exact this
    have HF2 := Lib.hid hF2
    clear hF2
    refine wpIn_loop (Inv2 w x ch LM (.slice (some ⟨bb, oo, none⟩) its.length cap) cv h0 b (W.heap.size + 1) W.heap.size (W.heap.size + 2) (W.heap.size + 3) its.length k) (fun _ W1 => mu2 (W.heap.size + 3) LM.length W1) ?_ ?_
    · exact ⟨ds, [], fun s => (#[(.slice (some ⟨bb, oo, none⟩) its.length cap), cv, u 2, u 3, (.pointer (some ⟨h0, 0, none⟩)), (.bool false), (.map (some b)), u 7, (.pointer (some ⟨W.heap.size, 0, none⟩)), (.pointer (some ⟨W.heap.size + 2, 0, none⟩)), u 10, u 11, u 12, u 13, u 14, u 15, u 16, u 17, u 18, u 19, u 20, (.slice (some ⟨bb, oo, none⟩) its.length cap), (.int .i64 its.length), (.int .i64 k), (.bool true), (.pointer (some ⟨bb, oo + k * 3, none⟩)), (.agg #[.int .i64 x.1, .int .i64 x.2.1, .int .i64 x.2.2]), (.map (some (W.heap.size + 1))), (.map (some b)), (.pointer (some ⟨W.heap.size + 3, 0, none⟩)), u 30, u 31, u 32, u 33, u 34, u 35, u 36, u 37, u 38, u 39, u 40, u 41, u 42, u 43, u 44, u 45, u 46, u 47, u 48, u 49, u 50, u 51, u 52, u 53, u 54, u 55, u 56, u 57, u 58, u 59, u 60, u 61, u 62, u 63, u 64, u 65, u 66, u 67, u 68, u 69, u 70, u 71, u 72, u 73, u 74, u 75, u 76, u 77, u 78, u 79, u 80, u 81, u 82, u 83, u 84] : Array Value).getD s undef, List.nodup_nil, fun _ h => (by simp at h), HF2.out, by simp only [World.size_alloc]; rfl⟩
    · intro a1 W1 hI1
      have HI1 := Lib.hid hI1
      clear hI1
      have hq := @round33 w x ch LM (.slice (some ⟨bb, oo, none⟩) its.length cap) cv h0 b (W.heap.size + 1) W.heap.size (W.heap.size + 2) (W.heap.size + 3) its.length k (9 * k) hxB hcv hch (by omega) HF.out.good
      unfold code33l at hq
      dsimp only [rfLoop, hasRF, Tryd.f33, Option.getD, Option.bind, Bool.or_true, Bool.or_false, Bool.false_or, Bool.true_or, if_true] at hq
      refine hq _ a1 W1 HI1.out ?_
      clear hq HI1 HF2
      intro ds1 pr u1 W2 hG2 hnd hsub hcov
      have HG2 := Lib.hid hG2
      have n0 := hG2.n0
      have HP := Lib.hid (And.intro hnd (And.intro hsub hcov))
      clear hG2 hnd hsub hcov
      unfold fr2
      gi_wp2
      refine ⟨⟨k + 1, W.heap.size + 1, midL x ch LM pr, ds1, fun s => (#[(.slice (some ⟨bb, oo, none⟩) its.length cap), cv, u1 2, u1 3, (.pointer (some ⟨h0, 0, none⟩)), (.bool false), (.map (some (W.heap.size + 1))), u1 7, (.pointer (some ⟨W.heap.size, 0, none⟩)), (.pointer (some ⟨W.heap.size + 2, 0, none⟩)), u1 10, u1 11, u1 12, u1 13, u1 14, u1 15, u1 16, u1 17, u1 18, u1 19, u1 20, (.slice (some ⟨bb, oo, none⟩) its.length cap), (.int .i64 its.length), (.int .i64 ((k : Int) + 1)), u1 24, u1 25, u1 26, u1 27, (.map (some b)), (.pointer (some ⟨W.heap.size + 3, 0, none⟩)), u1 30, u1 31, u1 32, u1 33, u1 34, u1 35, u1 36, u1 37, u1 38, u1 39, u1 40, u1 41, u1 42, u1 43, u1 44, u1 45, u1 46, u1 47, u1 48, u1 49, u1 50, u1 51, u1 52, u1 53, u1 54, u1 55, u1 56, u1 57, u1 58, u1 59, u1 60, u1 61, u1 62, u1 63, u1 64, u1 65, u1 66, u1 67, u1 68, u1 69, u1 70, u1 71, u1 72, u1 73, (.map (some (W.heap.size + 1))), (.int .i64 ((k : Int) + 1)), u1 76, u1 77, u1 78, u1 79, u1 80, u1 81, u1 82, u1 83, u1 84] : Array Value).getD s undef, ⟨hlt, ⟨LM, x, HF.out.tab, HX.out, pr, HP.out.1, HP.out.2.1, HP.out.2.2, rfl⟩, ?_, HG2.out.nxt, HG2.out.z, HG2.out.bel, HG2.out.dok⟩, rfl⟩, ?_⟩
      · rw [show 9 * (k + 1) = 9 * k + 9 by omega]
        have hit := hxB
        simp only [itB, Bool.and_eq_true, decide_eq_true_eq] at hit
        exact good_mid HF.out.good hit.1.1.1.1 (by omega) pr
      · unfold mu1
        simp
        omega
  · obtain rfl : k = its.length := by omega
    have hdec : decide (its.length < its.length) = false := by simp
    gi_wp2
    exact hexit b LM ds (fun s => (#[iv, cv, u 2, u 3, (.pointer (some ⟨h0, 0, none⟩)), (.bool false), (.map (some b)), u 7, u 8, u 9, u 10, u 11, u 12, u 13, u 14, u 15, u 16, u 17, u 18, u 19, u 20, iv, (.int .i64 its.length), (.int .i64 its.length), (.bool false), u 25, u 26, u 27, u 28, u 29, u 30, u 31, u 32, u 33, u 34, u 35, u 36, u 37, u 38, u 39, u 40, u 41, u 42, u 43, u 44, u 45, u 46, u 47, u 48, u 49, u 50, u 51, u 52, u 53, u 54, u 55, u 56, u 57, u 58, u 59, u 60, u 61, u 62, u 63, u 64, u 65, u 66, u 67, u 68, u 69, u 70, u 71, u 72, u 73, u 74, u 75, u 76, u 77, u 78, u 79, u 80, u 81, u 82, u 83, u 84] : Array Value).getD s undef) W HF.out

set_option maxRecDepth 100000 in
set_option maxHeartbeats 4000000 in
theorem f33_raw (w : World) (its : List It) (ch : List Int) (iv cv : Value) (hits : Items w iv its) (hall : its.all itB = true) (hlen : its.length ≤ 6) (hcv : Ints w cv ch) (hch : childrenB ch = true) :
    Calls Tryd.prog 33 #[iv, cv] w fun e w' => ∃ LM, Tab its ch its.length LM ∧ GoodM (9 * its.length) ch.length LM ∧ e = .returned (.tuple #[.agg (arrC (((lkM LM ch.length).map cntOf).getD fun _ => 0)), .bool (lkM LM ch.length).isSome]) ∧ Below w.heap.size w w' := by
  refine (callsIn_wide (n := 0)).1 ?_
  have hF : ∀ f, Fence.wide.fn f := fun _ => trivial
  obtain ⟨a0, cap, rfl, h1, h2, h3⟩ := hits
  obtain ⟨c0, cac, rfl, g1, g2, g3, g4⟩ := hcv
  have hits : Items w (.slice a0 its.length cap) its := ⟨a0, cap, rfl, h1, h2, h3⟩
  have hcv : Ints w (.slice c0 ch.length cac) ch := ⟨c0, cac, rfl, g1, g2, g3, g4⟩
  clear h3 g3 g4
  refine callsIn_of_wp_marks Tryd.func33 rfl (hF _) ?_ rfl
  simp only [Tryd.ntmps33, List.size_toArray, List.length_cons, List.length_nil, Nat.reduceAdd, Nat.reduceSub, Array.replicate_succ, Array.replicate_zero, List.push_toArray, List.append_toArray, List.nil_append, List.cons_append]
  have hmm := @run_makeMap Tryd.prog
  have hroot : ∀ o1 : Obj, ((w.alloc o1).alloc (.map #[] 0)).heap[w.heap.size + 1]? = some (mapObj []) := fun o1 => by
    have := World.alloc_heap_new (w.alloc o1) (.map #[] 0)
    rw [World.size_alloc] at this; exact this
  gi_wp2_with (refine wpListIn_update96 hF rfl _ _ _ (.inr rfl) (w.heap.size + 1) [] 0 (fun _ => 0) rfl rfl rfl (hroot _) ?_)
  obtain ⟨W0, hW0⟩ : ∃ W0, W0 = (((w.alloc (.cells (arrC fun _ => 0) 66)).alloc (.map #[] 0)).putObj (w.heap.size + 1) (mapObj (up [] 0 fun x => 0))) := ⟨_, rfl⟩
  have hF0 : F1 w its ch 0 (w.heap.size + 1) w.heap.size [(0, [])] [] W0 := by
    subst hW0
    refine ⟨Nat.zero_le _, rfl, ?_, ?_, ?_, ?_, ⟨List.nodup_nil, fun _ h => (by simp at h)⟩⟩
    · intro p hp
      obtain rfl : p = (0, []) := by simpa using hp
      exact ⟨⟨List.Pairwise.nil, fun _ h => (by simp at h), Nat.zero_le _⟩, Nat.zero_le _⟩
    · rw [World.putObj_heap_same (by simp)]
      congr 2
    · unfold rowC
      rw [World.putObj_heap_other (by omega), Below.heap_alloc _ _ _ (by simp), World.alloc_heap_new]
      rfl
    · exact (((Below.refl _ _).alloc (Nat.le_refl _) _).alloc (by simp) _).trans (below_putObj _ _ (by omega))
  have hW0' : (((w.alloc (.cells #[.int .i64 0, .int .i64 0, .int .i64 0, .int .i64 0, .int .i64 0, .int .i64 0, .int .i64 0, .int .i64 0, .int .i64 0, .int .i64 0, .int .i64 0, .int .i64 0] 66)).alloc (.map #[] 0)).putObj (w.heap.size + 1) (mapObj (up [] 0 fun x => 0))) = W0 := hW0.symm
  rw [hW0']
  have HF0 := Lib.hid hF0
  clear hF0 hW0 hW0' hroot
  refine wpIn_loop (Inv1 w its ch (.slice a0 its.length cap) (.slice c0 ch.length cac) w.heap.size) (mu1 its.length) ?_ ?_
  · exact ⟨0, w.heap.size + 1, [(0, [])], [], fun s => (#[(.slice a0 its.length cap), (.slice c0 ch.length cac), undef, undef, (.pointer (some ⟨w.heap.size, 0, none⟩)), (.bool false), (.map (some (w.heap.size + 1))), undef, undef, undef, undef, undef, undef, undef, undef, undef, undef, undef, (.map (some (w.heap.size + 1))), (.agg #[.int .i64 0, .int .i64 0, .int .i64 0, .int .i64 0, .int .i64 0, .int .i64 0, .int .i64 0, .int .i64 0, .int .i64 0, .int .i64 0, .int .i64 0, .int .i64 0]), (.map (some (w.heap.size + 1))), (.slice a0 its.length cap), (.int .i64 its.length), (.int .i64 0), undef, undef, undef, undef, undef, undef, undef, undef, undef, undef, undef, undef, undef, undef, undef, undef, undef, undef, undef, undef, undef, undef, undef, undef, undef, undef, undef, undef, undef, undef, undef, undef, undef, undef, undef, undef, undef, undef, undef, undef, undef, undef, undef, undef, undef, undef, undef, undef, undef, undef, undef, undef, undef, undef, undef, undef, undef, undef, undef, undef, undef] : Array Value).getD s undef, HF0.out, rfl⟩
  · intro a1 W1 hI1
    have HI1 := Lib.hid hI1
    clear hI1
    have hq := @round33o w its ch (.slice a0 its.length cap) (.slice c0 ch.length cac) w.heap.size hits hall hlen hcv hch
    unfold code33o at hq
    dsimp only [outer1, Tryd.f33, Option.getD, Option.bind] at hq
    refine hq _ a1 W1 HI1.out ?_
    clear hq HI1 HF0
    intro b LM ds u W2 hG
    unfold fr1
    have HG := Lib.hid hG
    have hz := hG.z
    have hlk := lk_cm LM ch.length
    obtain ⟨m0, hm0⟩ : ∃ m0, m0 = ((lkM LM ch.length).map cntOf).getD fun _ => 0 := ⟨_, rfl⟩
    have e1 : rowC ((W2.alloc (.cells (arrC fun _ => 0) 66))) W2.heap.size = arrC fun _ => 0 := by go_simp
    have e2 : rowC ((W2.alloc (.cells (arrC m0) 66))) W2.heap.size = arrC m0 := by go_simp
    have hzA : ∀ o1 : Obj, rowC (W2.alloc o1) w.heap.size = arrC fun _ => 0 := fun o1 => by
      rw [rowC_alloc, if_neg]
      · exact hz
      · have := rowC_lt (w := W2) (g := w.heap.size) (by rw [hz, arrC_size]; omega); omega
    have HLK := Lib.hid hlk
    have HM0 := Lib.hid hm0
    have HZA := Lib.hid hzA
    clear hG hlk hm0 hz hzA
    gi_wp2_with (first | (refine wpListIn_lookup96 hF rfl _ _ rfl b (cm LM) (ch.length : Int) rfl rfl HG.out.now ?_; rw [HLK.out, ← HM0.out]; simp only [Option.isSome_map]) | (refine wpListIn_store66 hF rfl _ _ rfl W2.heap.size (arrC m0) _ rfl rfl e1 (arrC_size _) (arrC_size _) (arrC_cells1 _) ?_) | (refine wpListIn_load66 hF rfl _ rfl W2.heap.size rfl _ e2 (arrC_size _) ?_) | (refine wpListIn_store66 hF rfl _ _ rfl w.heap.size (arrC m0) _ rfl rfl (HZA.out _) (arrC_size _) (arrC_size _) (arrC_cells1 _) ?_))
    have hlt0 : w.heap.size < W2.heap.size := rowC_lt (by rw [HG.out.z, arrC_size]; omega)
    have hro : rowC (W2.alloc (.cells (arrC m0) 66)) w.heap.size = arrC fun _ => 0 := HZA.out _
    have hbe : Below w.heap.size w (W2.alloc (.cells (arrC m0) 66)) := HG.out.bel.alloc HG.out.bel.size _
    have hdk : DOK w.heap.size ds (W2.alloc (.cells (arrC m0) 66)) := HG.out.dok.below ((Below.refl _ _).alloc (Nat.le_refl _) _)
    show LeavesInM _ _ _ _ _ _ (dl ds) .returning _
    refine leaves_dl (B := w.heap.size) (fun W' => rowC W' w.heap.size = arrC m0 ∧ Below w.heap.size w W') ?_ ?_ ds _ ?_ ?_
    · intro D W' hZ hD hBD
      exact ⟨(row_putObj _ (row_not hZ.1 (by rw [arrC_size]; omega) hD rfl)).trans hZ.1, hZ.2.trans (below_putObj _ _ hBD)⟩
    · intro W' hZ
      obtain ⟨t, ht⟩ := rowC_heap (w := W') (g := w.heap.size) (by rw [hZ.1, arrC_size]; omega)
      rw [hZ.1] at ht
      refine ⟨.tuple #[.agg (arrC (((lkM LM ch.length).map cntOf).getD fun _ => 0)), .bool (lkM LM ch.length).isSome], ?_, LM, HG.out.tab, HG.out.good, rfl, hZ.2⟩
      rw [results_cell_tmp (ty := 66) (p := 4) (u := 5) rfl, ← HM0.out]
      simp [asAddr, run_loadVar_row W' w.heap.size t 66 (arrC m0) _ _ ht Tryd.underlying66 rfl (by rw [arrC_size]; exact info66), Result.andThen]
    · refine ⟨hdk.nd, fun D hD => ⟨?_, (hdk.at_ D hD).2⟩⟩
      rw [setRow_other]
      · exact (hdk.at_ D hD).1
      · rintro rfl
        have h5 := (hdk.at_ _ hD).1
        obtain ⟨t, ht⟩ := rowC_heap (w := W2.alloc (.cells (arrC m0) 66)) (g := w.heap.size) (by rw [hro, arrC_size]; omega)
        rw [ht] at h5; cases h5
    · refine ⟨?_, below_setRow hbe (Nat.le_refl _) _⟩
      exact rowC_setRow _ (by rw [hro, arrC_size]; omega)
end Go.Proofs.YteilaajjpjhijaaDoor
