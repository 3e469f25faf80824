/- Plain laws of divisions: the table of divide holds the first of what is missing. No walk. -/
import Derived.Test.YteilaajjpjhijaaDoorW9
namespace Go.Proofs.YteilaajjpjhijaaDoor
open PSpec

theorem lexB_irr (a : List Int) : lexB a a = false := by
  induction a with
  | nil => rfl
  | cons x a ih => simp [lexB, ih]
theorem lexB_trans (a b c : List Int) (h1 : lexB a b = true) (h2 : lexB b c = true) : lexB a c = true := by
  induction a generalizing b c with
  | nil => simp [lexB] at h1
  | cons x a ih =>
    cases b with
    | nil => simp [lexB] at h1
    | cons y b =>
      cases c with
      | nil => simp [lexB] at h2
      | cons z c =>
        simp only [lexB] at *
        by_cases e1 : x = y
        · subst e1
          rw [if_pos rfl] at h1
          by_cases e2 : x = z
          · subst e2
            rw [if_pos rfl] at h2 ⊢
            exact ih b c h1 h2
          · rw [if_neg e2] at h2 ⊢
            exact h2
        · rw [if_neg e1] at h1
          by_cases e2 : y = z
          · subst e2
            rw [if_neg e1]; exact h1
          · rw [if_neg e2] at h2
            simp only [decide_eq_true_eq] at h1 h2
            rw [if_neg (by omega)]
            simp; omega
theorem lexB_total (a b : List Int) (hl : a.length = b.length) (h1 : lexB a b = false) (h2 : lexB b a = false) : a = b := by
  induction a generalizing b with
  | nil => exact (List.length_eq_zero_iff.1 hl.symm).symm
  | cons x a ih =>
    cases b with
    | nil => simp at hl
    | cons y b =>
      simp only [lexB] at h1 h2
      by_cases e : x = y
      · subst e
        rw [if_pos rfl] at h1 h2
        rw [ih b (by simpa using hl) h1 h2]
      · rw [if_neg e] at h1
        rw [if_neg (Ne.symm e)] at h2
        simp only [decide_eq_false_iff_not] at h1 h2
        omega
theorem befB_irr (a : List Int) : befB a a = false := by simp [befB, lexB_irr]
theorem befB_trans {a b c : List Int} (h1 : befB a b = true) (h2 : befB b c = true) : befB a c = true := by
  unfold befB at *
  by_cases e1 : a.length = b.length
  · rw [if_pos e1] at h1
    by_cases e2 : b.length = c.length
    · rw [if_pos e2] at h2
      rw [if_pos (by omega)]
      exact lexB_trans a b c h1 h2
    · rw [if_neg e2] at h2
      rw [if_neg (by omega), e1]; exact h2
  · rw [if_neg e1] at h1
    by_cases e2 : b.length = c.length
    · rw [if_pos e2] at h2
      rw [if_neg (by omega), ← e2]; exact h1
    · rw [if_neg e2] at h2
      simp only [decide_eq_true_eq] at h1 h2
      rw [if_neg (by omega)]; simp; omega
theorem befB_total {a b : List Int} (h1 : befB a b = false) (h2 : befB b a = false) : a = b := by
  unfold befB at *
  by_cases e1 : a.length = b.length
  · rw [if_pos e1] at h1
    rw [if_pos e1.symm] at h2
    exact lexB_total a b e1 h1 h2
  · rw [if_neg e1] at h1
    rw [if_neg (Ne.symm e1)] at h2
    simp only [decide_eq_false_iff_not] at h1 h2
    omega
/-- not before: as good -/
theorem nb_trans {a b c : List Int} (h1 : befB b a = false) (h2 : befB c b = false) : befB c a = false := by
  cases h : befB c a with
  | false => rfl
  | true =>
    cases hab : befB a b with
    | true => rw [befB_trans h hab] at h2; cases h2
    | false =>
      obtain rfl := befB_total hab h1
      rw [h] at h2; cases h2

def IsBest (P : List Int → Prop) (o : Option (List Int)) : Prop :=
  match o with
  | none => ∀ y, ¬ P y
  | some m => P m ∧ ∀ y, P y → befB y m = false
theorem IsBest.congr {P Q : List Int → Prop} {o : Option (List Int)} (h : IsBest P o) (e : ∀ y, P y ↔ Q y) : IsBest Q o := by
  have : P = Q := funext fun y => propext (e y)
  rw [← this]; exact h
theorem IsBest.uniq {P : List Int → Prop} {a b : Option (List Int)} (ha : IsBest P a) (hb : IsBest P b) : a = b := by
  cases a with
  | none =>
    cases b with
    | none => rfl
    | some m => exact absurd hb.1 (ha m)
  | some m =>
    cases b with
    | none => exact absurd ha.1 (hb m)
    | some k => rw [befB_total (hb.2 m ha.1) (ha.2 k hb.1)]
theorem IsBest.add {P : List Int → Prop} {o : Option (List Int)} (h : IsBest P o) (m : List Int) : IsBest (fun y => P y ∨ y = m) (better o m) := by
  unfold better
  cases o with
  | none =>
    refine ⟨.inr rfl, fun y hy => ?_⟩
    rcases hy with hy | rfl
    · exact absurd hy (h y)
    · exact befB_irr y
  | some k =>
    dsimp only
    by_cases hb : befB m k = true
    · rw [if_pos hb]
      refine ⟨.inr rfl, fun y hy => ?_⟩
      rcases hy with hy | rfl
      · cases hym : befB y m with
        | false => rfl
        | true => have := h.2 y hy; rw [befB_trans hym hb] at this; cases this
      · exact befB_irr y
    · rw [if_neg hb]
      refine ⟨.inl h.1, fun y hy => ?_⟩
      rcases hy with hy | rfl
      · exact h.2 y hy
      · simpa using hb
theorem best_is (l : List (List Int)) : IsBest (· ∈ l) (best l) := by
  unfold best
  have H : ∀ (l : List (List Int)) (P : List Int → Prop) (o : Option (List Int)), IsBest P o → IsBest (fun y => P y ∨ y ∈ l) (l.foldl better o) := by
    intro l
    induction l with
    | nil => exact fun P o h => h.congr fun y => by simp
    | cons m l ih =>
      intro P o h
      refine (ih _ _ (h.add m)).congr fun y => ?_
      simp only [List.mem_cons, or_assoc]
  exact (H l (fun _ => False) none (fun _ h => h)).congr fun y => by simp
/-- some of the candidates are enough -/
theorem IsBest.enough {P D : List Int → Prop} {o : Option (List Int)} (h : IsBest P o) (hs : ∀ y, P y → D y) (hd : ∀ y, D y → ∃ q, P q ∧ befB y q = false) : IsBest D o := by
  cases o with
  | none => exact fun y hy => by obtain ⟨q, hq, _⟩ := hd y hy; exact h q hq
  | some m =>
    refine ⟨hs m h.1, fun y hy => ?_⟩
    obtain ⟨q, hq, hb⟩ := hd y hy
    exact nb_trans (h.2 q hq) hb

-- insertion
theorem insN_perm (x : Int) (k : Nat) (m : List Int) : List.Perm (insN x k m) (List.replicate k x ++ m) := by
  rw [List.perm_iff_count]
  intro a
  unfold insN
  have h : m.count a = (m.takeWhile fun y => decide (y ≤ x)).count a + (m.dropWhile fun y => decide (y ≤ x)).count a := by
    rw [← List.count_append, List.takeWhile_append_dropWhile]
  simp only [List.count_append]
  omega
theorem asc_eq {a b : List Int} (ha : a.Pairwise (· ≤ ·)) (hb : b.Pairwise (· ≤ ·)) (h : List.Perm a b) : a = b :=
  List.Perm.eq_of_pairwise (fun _ _ _ _ h1 h2 => by omega) ha hb h
theorem insN_comm (x y : Int) (j k : Nat) (m : List Int) (h : m.Pairwise (· ≤ ·)) : insN x j (insN y k m) = insN y k (insN x j m) := by
  refine asc_eq (insN_asc _ _ _ (insN_asc _ _ _ h)) (insN_asc _ _ _ (insN_asc _ _ _ h)) ?_
  rw [List.perm_iff_count]
  intro a
  rw [(insN_perm _ _ _).count_eq, (insN_perm x j m |>.count_eq a |> fun _ => insN_perm y k (insN x j m)).count_eq]
  simp only [List.count_append, (insN_perm _ _ _).count_eq]
  omega

theorem lex_insN {n p : Nat} {a b : List Int} (x : Int) (k : Nat) (ha : Wf n a) (hb : Wf p b) (hx : opB x = true) (hl : a.length = b.length) : lexB (insN x k a) (insN x k b) = lexB a b := by
  have wa := wf_insN x k ha hx
  have wb := wf_insN x k hb hx
  rw [Bool.eq_iff_iff, ← cmp_lex a b hl ha.asc hb.asc ha.ops hb.ops, ← cmp_lex _ _ (by rw [insN_len, insN_len, hl]) wa.asc wb.asc wa.ops wb.ops]
  have e : ∀ m : List Int, cL (cntOf (insN x k m)) = (List.range 12).map fun i => cntOf m i + if x = (i : Int) then (k : Int) else 0 := fun m =>
    List.map_congr_left fun i _ => cnt_insN x k m i
  rw [e, e, cmpL_map_add]
  rfl
theorem bef_insN {n p : Nat} {a b : List Int} (x : Int) (k : Nat) (ha : Wf n a) (hb : Wf p b) (hx : opB x = true) : befB (insN x k a) (insN x k b) = befB a b := by
  unfold befB
  rw [insN_len, insN_len]
  by_cases hl : a.length = b.length
  · rw [if_pos (by omega), if_pos hl]; exact lex_insN x k ha hb hx hl
  · rw [if_neg (by omega), if_neg hl]
    rw [Bool.eq_iff_iff]; simp

-- divisions
theorem maxT_iff (x : It) (ch : List Int) (t : Nat) : t ≤ maxT x ch ↔ t ≤ x.2.2.toNat ∧ ∃ r, ch = List.replicate t x.1 ++ r := by
  constructor
  · intro h
    have h2 : maxT x ch ≤ x.2.2.toNat := maxT_le x ch
    refine ⟨by omega, ch.drop t, ?_⟩
    have h3 := maxT_len x ch
    have : ch.take t = List.replicate t x.1 := by
      rw [List.eq_replicate_iff]
      refine ⟨by simp; omega, fun y hy => ?_⟩
      obtain ⟨i, hi, rfl⟩ := List.mem_iff_getElem.1 hy
      simp at hi
      have := (maxT_lt x ch i (by omega)).2.2
      rw [List.getElem_take]
      rw [List.getElem?_eq_getElem (by omega)] at this
      simpa using this
    rw [← this, List.take_append_drop]
  · rintro ⟨h1, r, rfl⟩
    rcases Nat.lt_or_ge (maxT x (List.replicate t x.1 ++ r)) t with h | h
    · exfalso
      refine maxT_stop x (List.replicate t x.1 ++ r) x.1 (by omega) ?_ rfl
      rw [List.getElem?_append_left (by simpa using h), List.getElem?_replicate, if_pos h]
    · exact h
theorem mem_divs_nil (ch m : List Int) : m ∈ divs [] ch ↔ ch = [] ∧ m = [] := by
  unfold divs
  cases ch <;> simp
theorem mem_divs_cons (x : It) (its : List It) (ch m : List Int) :
    m ∈ divs (x :: its) ch ↔ ∃ t r m0, t ≤ x.2.2.toNat ∧ ch = List.replicate t x.1 ++ r ∧ m0 ∈ divs its r ∧ m = insN x.1 (x.2.1 - t).toNat m0 := by
  simp only [divs, List.mem_flatMap, List.mem_range, List.mem_map]
  constructor
  · rintro ⟨t, ht, m0, hm, rfl⟩
    obtain ⟨h1, r, hr⟩ := (maxT_iff x ch t).1 (by omega)
    refine ⟨t, r, m0, h1, hr, ?_, rfl⟩
    rw [hr, List.drop_left' (by simp)] at hm
    exact hm
  · rintro ⟨t, r, m0, h1, rfl, hm, rfl⟩
    have := (maxT_iff x (List.replicate t x.1 ++ r) t).2 ⟨h1, r, rfl⟩
    refine ⟨t, by omega, m0, ?_, rfl⟩
    rw [List.drop_left' (by simp)]
    exact hm
theorem divs_asc (its : List It) (ch m : List Int) (h : m ∈ divs its ch) : m.Pairwise (· ≤ ·) := by
  induction its generalizing ch m with
  | nil => rw [((mem_divs_nil ch m).1 h).2]; exact .nil
  | cons x its ih =>
    obtain ⟨t, r, m0, _, _, h0, rfl⟩ := (mem_divs_cons x its ch m).1 h
    exact insN_asc _ _ _ (ih r m0 h0)
theorem divs_wf (its : List It) (ch m : List Int) (hB : its.all itB = true) (h : m ∈ divs its ch) : Wf (9 * its.length) m := by
  induction its generalizing ch m with
  | nil => rw [((mem_divs_nil ch m).1 h).2]; exact ⟨.nil, fun _ h => (by simp at h), Nat.zero_le _⟩
  | cons x its ih =>
    obtain ⟨t, r, m0, _, _, h0, rfl⟩ := (mem_divs_cons x its ch m).1 h
    simp only [List.all_cons, Bool.and_eq_true] at hB
    have hx := hB.1
    simp only [itB, Bool.and_eq_true, decide_eq_true_eq] at hx
    exact (wf_insN x.1 _ (ih r m0 hB.2 h0) hx.1.1.1.1).mono (by simp; omega)
theorem mem_divs_snoc (its : List It) (x : It) (ch m : List Int) :
    m ∈ divs (its ++ [x]) ch ↔ ∃ t r m0, t ≤ x.2.2.toNat ∧ ch = r ++ List.replicate t x.1 ∧ m0 ∈ divs its r ∧ m = insN x.1 (x.2.1 - t).toNat m0 := by
  induction its generalizing ch m with
  | nil =>
    simp only [List.nil_append, mem_divs_cons, mem_divs_nil]
    constructor
    · rintro ⟨t, r, m0, h1, h2, ⟨rfl, rfl⟩, h3⟩
      exact ⟨t, [], [], h1, by simpa using h2, ⟨rfl, rfl⟩, h3⟩
    · rintro ⟨t, r, m0, h1, h2, ⟨rfl, rfl⟩, h3⟩
      exact ⟨t, [], [], h1, by simpa using h2, ⟨rfl, rfl⟩, h3⟩
  | cons y its ih =>
    simp only [List.cons_append]
    constructor
    · intro h
      obtain ⟨s, r, m1, h1, rfl, hm, rfl⟩ := (mem_divs_cons _ _ _ _).1 h
      obtain ⟨t, r0, m0, h2, rfl, h0, rfl⟩ := (ih r m1).1 hm
      refine ⟨t, List.replicate s y.1 ++ r0, insN y.1 (y.2.1 - s).toNat m0, h2, by simp, (mem_divs_cons _ _ _ _).2 ⟨s, r0, m0, h1, rfl, h0, rfl⟩, insN_comm _ _ _ _ _ (divs_asc _ _ _ h0)⟩
    · rintro ⟨t, r0, m1, h2, rfl, hm, rfl⟩
      obtain ⟨s, r, m0, h1, rfl, h0, rfl⟩ := (mem_divs_cons _ _ _ _).1 hm
      exact (mem_divs_cons _ _ _ _).2 ⟨s, r ++ List.replicate t x.1, insN x.1 (x.2.1 - t).toNat m0, h1, by simp, (ih _ _).2 ⟨t, r, m0, h2, rfl, h0, rfl⟩, insN_comm _ _ _ _ _ (divs_asc _ _ _ h0)⟩

-- the table
theorem lkM_nil (b : Nat) : lkM [] b = none := rfl
theorem lkM_cons (p : Nat × List Int) (L : LMt) (b : Nat) : lkM (p :: L) b = if p.1 = b then some p.2 else lkM L b := by
  unfold lkM
  by_cases h : p.1 = b
  · simp [h]
  · simp [h]
theorem upM_cons (p : Nat × List Int) (L : LMt) (a : Nat) (m : List Int) : upM (p :: L) a m = if p.1 = a then (a, m) :: L else p :: upM L a m := by
  unfold upM
  rw [List.findIdx?_cons]
  by_cases h : p.1 = a
  · simp [h]
  · simp only [beq_iff_eq, h, if_false]
    cases hf : L.findIdx? fun p => p.1 == a with
    | none => simp
    | some j => simp
theorem lkM_up (L : LMt) (a b : Nat) (m : List Int) : lkM (upM L a m) b = if b = a then some m else lkM L b := by
  induction L with
  | nil =>
    have : upM [] a m = [(a, m)] := rfl
    rw [this, lkM_cons]
    by_cases h : b = a
    · rw [if_pos h, if_pos h.symm]
    · rw [if_neg h, if_neg (Ne.symm h)]
  | cons p L ih =>
    rw [upM_cons]
    by_cases h : p.1 = a
    · rw [if_pos h, lkM_cons, lkM_cons]
      by_cases hb : b = a
      · rw [if_pos hb, if_pos hb.symm]
      · rw [if_neg hb, if_neg (Ne.symm hb), if_neg (by rw [h]; exact Ne.symm hb)]
    · rw [if_neg h, lkM_cons, lkM_cons, ih]
      by_cases hb : b = a
      · rw [if_pos hb, if_pos hb, if_neg (by rw [hb]; exact h)]
      · rw [if_neg hb, if_neg hb]
theorem lkM_relax (L : LMt) (a b : Nat) (m : List Int) : lkM (relax L a m) b = if b = a then better (lkM L a) m else lkM L b := by
  unfold relax better
  cases h : lkM L a with
  | none => rw [lkM_up]
  | some k =>
    dsimp only
    by_cases hb : befB m k = true
    · rw [if_pos hb, if_pos hb, lkM_up]
    · rw [if_neg hb, if_neg hb]
      by_cases e : b = a
      · rw [if_pos e, e, h]
      · rw [if_neg e]
theorem mem_upM {L : LMt} {a : Nat} {m : List Int} {p : Nat × List Int} (h : p ∈ upM L a m) : p ∈ L ∨ p = (a, m) := by
  unfold upM at h
  split at h
  · rcases List.mem_or_eq_of_mem_set h with h | h
    · exact .inl h
    · exact .inr h
  · simpa using h
theorem mem_relax {L : LMt} {a : Nat} {m : List Int} {p : Nat × List Int} (h : p ∈ relax L a m) : p ∈ L ∨ p = (a, m) := by
  unfold relax at h
  split at h
  · exact mem_upM h
  · split at h
    · exact mem_upM h
    · exact .inl h

/-- L holds, for each place, the first of the candidates P -/
def Holds (P : Nat → List Int → Prop) (L : LMt) : Prop := (∀ p, p ∈ L → P p.1 p.2) ∧ ∀ a, IsBest (P a) (lkM L a)
theorem Holds.congr {P Q : Nat → List Int → Prop} {L : LMt} (h : Holds P L) (e : ∀ a y, P a y ↔ Q a y) : Holds Q L := by
  have : P = Q := funext fun a => funext fun y => propext (e a y)
  rw [← this]; exact h
theorem Holds.relax {P : Nat → List Int → Prop} {L : LMt} (h : Holds P L) (a : Nat) (m : List Int) : Holds (fun b y => P b y ∨ (b = a ∧ y = m)) (relax L a m) := by
  refine ⟨fun p hp => ?_, fun b => ?_⟩
  · rcases mem_relax hp with hp | rfl
    · exact .inl (h.1 p hp)
    · exact .inr ⟨rfl, rfl⟩
  · rw [lkM_relax]
    by_cases e : b = a
    · subst e
      rw [if_pos rfl]
      exact ((h.2 b).add m).congr fun y => by simp
    · rw [if_neg e]
      exact (h.2 b).congr fun y => by simp [e]
theorem Holds.inner {P : Nat → List Int → Prop} {L : LMt} (h : Holds P L) (x : It) (a : Nat) (m : List Int) (T : Nat) :
    Holds (fun b y => P b y ∨ ∃ t, t < T ∧ b = a + t ∧ y = insN x.1 (x.2.1 - t).toNat m) (inner x a m T L) := by
  induction T with
  | zero => exact h.congr fun b y => by simp
  | succ T ih =>
    rw [inner_succ]
    refine (ih.relax _ _).congr fun b y => ?_
    constructor
    · rintro ((h | ⟨t, ht, h⟩) | h)
      · exact .inl h
      · exact .inr ⟨t, by omega, h⟩
      · exact .inr ⟨T, by omega, h⟩
    · rintro (h | ⟨t, ht, h⟩)
      · exact .inl (.inl h)
      · by_cases e : t = T
        · subst e; exact .inr h
        · exact .inl (.inr ⟨t, by omega, h⟩)
theorem holds_nil : Holds (fun _ _ => False) [] := ⟨fun p hp => (by simp at hp), fun a => by rw [lkM_nil]; exact fun _ h => h⟩
theorem holds_mid (x : It) (ch : List Int) (LM : LMt) (pr : List Nat) :
    Holds (fun b y => ∃ i p t, i ∈ pr ∧ LM[i]? = some p ∧ t ≤ maxT x (ch.drop p.1) ∧ b = p.1 + t ∧ y = insN x.1 (x.2.1 - t).toNat p.2) (midL x ch LM pr) := by
  unfold midL
  have H : ∀ (pr : List Nat) (P : Nat → List Int → Prop) (L : LMt), Holds P L → Holds (fun b y => P b y ∨ ∃ i p t, i ∈ pr ∧ LM[i]? = some p ∧ t ≤ maxT x (ch.drop p.1) ∧ b = p.1 + t ∧ y = insN x.1 (x.2.1 - t).toNat p.2) (pr.foldl (entryStep x ch LM) L) := by
    intro pr
    induction pr with
    | nil => exact fun P L h => h.congr fun b y => by simp
    | cons i pr ih =>
      intro P L h
      rw [List.foldl_cons]
      unfold entryStep
      cases hq : LM[i]? with
      | none =>
        refine (ih P L h).congr fun b y => ?_
        constructor
        · rintro (h | ⟨j, p, t, hj, h⟩)
          · exact .inl h
          · exact .inr ⟨j, p, t, by simp [hj], h⟩
        · rintro (h | ⟨j, p, t, hj, hp, h⟩)
          · exact .inl h
          · rcases List.mem_cons.1 hj with rfl | hj
            · rw [hq] at hp; cases hp
            · exact .inr ⟨j, p, t, hj, hp, h⟩
      | some q =>
        refine (ih _ _ (h.inner x q.1 q.2 _)).congr fun b y => ?_
        constructor
        · rintro ((h | ⟨t, ht, hb, hy⟩) | ⟨j, p, t, hj, h⟩)
          · exact .inl h
          · exact .inr ⟨i, q, t, by simp, hq, by omega, hb, hy⟩
          · exact .inr ⟨j, p, t, by simp [hj], h⟩
        · rintro (h | ⟨j, p, t, hj, hp, ht, hb, hy⟩)
          · exact .inl (.inl h)
          · rcases List.mem_cons.1 hj with rfl | hj
            · rw [hq] at hp; cases hp
              exact .inl (.inr ⟨t, by omega, hb, hy⟩)
            · exact .inr ⟨j, p, t, hj, hp, ht, hb, hy⟩
  exact (H pr _ [] holds_nil).congr fun b y => by simp

theorem holds_tab (its : List It) (ch : List Int) (hB : its.all itB = true) : ∀ (k : Nat) (L : LMt), k ≤ its.length → Tab its ch k L → Holds (fun a y => a ≤ ch.length ∧ y ∈ divs (its.take k) (ch.take a)) L := by
  intro k
  induction k with
  | zero =>
    rintro L _ rfl
    refine ⟨fun p hp => ?_, fun a => ?_⟩
    · obtain rfl : p = (0, []) := by simpa using hp
      exact ⟨Nat.zero_le _, by simp [divs]⟩
    · rw [lkM_cons, lkM_nil]
      by_cases h : 0 = a
      · subst h
        rw [if_pos rfl]
        exact ⟨⟨Nat.zero_le _, by simp [divs]⟩, fun y hy => by
          have := ((mem_divs_nil _ y).1 (by simpa using hy.2)).2
          rw [this]; rfl⟩
      · rw [if_neg h]
        rintro y ⟨h1, h2⟩
        have := ((mem_divs_nil _ y).1 (by simpa using h2)).1
        have h3 := congrArg List.length this
        rw [List.length_take, List.length_nil] at h3; omega
  | succ k ih =>
    rintro L hk ⟨L0, x, htab, hx, pr, hnd, hsub, hcov, rfl⟩
    have h0 := ih L0 (by omega) htab
    have hxB : itB x = true := List.all_eq_true.1 hB x (List.mem_of_getElem? hx)
    have hop : opB x.1 = true := by simp only [itB, Bool.and_eq_true] at hxB; exact hxB.1.1.1.1
    have hm := holds_mid x ch L0 pr
    have htk : its.take (k + 1) = its.take k ++ [x] := by rw [List.take_add_one, hx]; rfl
    have hBk : (its.take k).all itB = true := List.all_eq_true.2 fun y hy => List.all_eq_true.1 hB y (List.mem_of_mem_take hy)
    -- the candidates of a place are divisions
    have snd : ∀ (p : Nat × List Int) (t : Nat), p ∈ L0 → t ≤ maxT x (ch.drop p.1) → p.1 + t ≤ ch.length ∧ insN x.1 (x.2.1 - t).toNat p.2 ∈ divs (its.take (k + 1)) (ch.take (p.1 + t)) := by
      intro p t hp ht
      obtain ⟨hle, hd⟩ := h0.1 p hp
      have h3 := maxT_len x (ch.drop p.1)
      simp at h3
      obtain ⟨h1, r, hr⟩ := (maxT_iff _ _ _).1 ht
      refine ⟨by omega, ?_⟩
      rw [htk, mem_divs_snoc]
      refine ⟨t, ch.take p.1, p.2, h1, ?_, hd, rfl⟩
      rw [List.take_add, hr, List.take_left' (by simp)]
    refine ⟨fun p hp => ?_, fun a => ?_⟩
    · obtain ⟨i, q, t, _, hq, ht, hb, hy⟩ := hm.1 p hp
      have := snd q t (List.mem_of_getElem? hq) ht
      rw [hb, hy]; exact this
    · refine (hm.2 a).enough ?_ ?_
      · rintro y ⟨i, q, t, _, hq, ht, rfl, rfl⟩
        exact snd q t (List.mem_of_getElem? hq) ht
      · rintro y ⟨hle, hy⟩
        rw [htk, mem_divs_snoc] at hy
        obtain ⟨t, r, m0, h1, hr, hm0, rfl⟩ := hy
        -- the place of r
        have hlen := congrArg List.length hr
        simp at hlen
        have hrt : r = ch.take r.length := by
          have := congrArg (List.take r.length) hr
          rw [List.take_left' rfl, List.take_take, Nat.min_eq_left (by omega)] at this
          exact this.symm
        rw [hrt] at hm0
        have hb := h0.2 r.length
        cases hlk : lkM L0 r.length with
        | none => rw [hlk] at hb; exact absurd ⟨by omega, hm0⟩ (hb m0)
        | some m1 =>
          rw [hlk] at hb
          have hmem := lkM_mem hlk
          obtain ⟨i, hi, hg⟩ := List.mem_iff_getElem.1 hmem
          refine ⟨_, ⟨i, (r.length, m1), t, hcov i hi, by rw [List.getElem?_eq_getElem hi, hg], ?_, by dsimp only; omega, rfl⟩, ?_⟩
          · dsimp only
            refine (maxT_iff _ _ _).2 ⟨h1, ch.drop a, ?_⟩
            have : ch.drop r.length = (ch.take a).drop r.length ++ ch.drop a := by
              rw [List.drop_take, show a - r.length = t by omega]
              have e := List.take_append_drop t (ch.drop r.length)
              rw [List.drop_drop, show r.length + t = a by omega] at e
              exact e.symm
            rw [this, hr, List.drop_left' rfl]
          · dsimp only
            have w1 := divs_wf _ _ _ hBk hb.1.2
            have w0 := divs_wf _ _ _ hBk hm0
            rw [bef_insN _ _ w0 w1 hop]
            exact hb.2 m0 ⟨by omega, hm0⟩

/-- what stands at the last place -/
theorem tab_best (its : List It) (ch : List Int) (hB : its.all itB = true) (L : LMt) (h : Tab its ch its.length L) : lkM L ch.length = best (divs its ch) := by
  have := (holds_tab its ch hB its.length L (Nat.le_refl _) h).2 ch.length
  simp only [List.take_length] at this
  refine (this.congr fun y => ?_).uniq (best_is (divs its ch))
  simp

open Go.RowKit
/-- divide's contract -/
theorem f33_any (w : World) (its : List It) (ch : List Int) (iv cv : Value) (hits : Items w iv its) (hall : its.all itB = true) (hlen : its.length ≤ 6) (hcv : Ints w cv ch) (hch : childrenB ch = true) :
    Calls Tryd.prog 33 #[iv, cv] w fun e w' => e = .returned (.tuple #[.agg (arrC (((best (divs its ch)).map cntOf).getD fun _ => 0)), .bool (best (divs its ch)).isSome]) ∧ Below w.heap.size w w' := by
  refine (f33_raw w its ch iv cv hits hall hlen hcv hch).mono ?_
  rintro e w' ⟨LM, ht, _, rfl, hb⟩
  rw [tab_best its ch hall LM ht]
  exact ⟨rfl, hb⟩
end Go.Proofs.YteilaajjpjhijaaDoor
