/- Plain laws of protocols: what a further child does to what is missing, in either direction; further rules and the order of rules. No walk. -/
import Derived.Test.YteilaajjpjhijaaDoorDl
namespace Go.Proofs.YteilaajjpjhijaaDoor
open PSpec

theorem insN_zero (x : Int) (m : List Int) (h : m.Pairwise (· ≤ ·)) : insN x 0 m = m :=
  asc_eq (insN_asc x 0 m h) h (by simpa using insN_perm x 0 m)
theorem insN_add (x : Int) (j k : Nat) (m : List Int) (h : m.Pairwise (· ≤ ·)) : insN x (j + k) m = insN x j (insN x k m) := by
  refine asc_eq (insN_asc _ _ _ h) (insN_asc _ _ _ (insN_asc _ _ _ h)) ?_
  refine (insN_perm x (j + k) m).trans ?_
  refine .trans ?_ (insN_perm x j (insN x k m)).symm
  rw [← List.replicate_append_replicate, List.append_assoc]
  exact (insN_perm x k m).symm.append_left _
theorem mem_insN {x : Int} {k : Nat} {m : List Int} {y : Int} (h : y ∈ insN x k m) : (y = x ∧ 0 < k) ∨ y ∈ m := by
  rw [(insN_perm x k m).mem_iff, List.mem_append, List.mem_replicate] at h
  rcases h with ⟨h, e⟩ | h
  · exact .inl ⟨e, by omega⟩
  · exact .inr h

/-- a child put in at some place -/
def insAt (l : List Int) (k : Nat) (x : Int) : List Int := l.take k ++ x :: l.drop k
theorem insAt_app (a b : List Int) (x : Int) : insAt (a ++ b) a.length x = a ++ x :: b := by
  unfold insAt
  rw [List.take_left, List.drop_left]
theorem insAt_len (l : List Int) (k : Nat) (x : Int) (h : k ≤ l.length) : (insAt l k x).length = l.length + 1 := by
  unfold insAt
  simp only [List.length_append, List.length_cons, List.length_take, List.length_drop]; omega

/-- a child is taken away -/
theorem divs_del (its : List It) (a b : List Int) (x : Int) (m : List Int) (h : m ∈ divs its (a ++ x :: b)) : ∃ m', m' ∈ divs its (a ++ b) ∧ (m = m' ∨ m' = insN x 1 m) := by
  induction its generalizing a m with
  | nil =>
    have := ((mem_divs_nil _ _).1 h).1
    simp at this
  | cons y its ih =>
    obtain ⟨t, r, m0, ht, hch, hm0, rfl⟩ := (mem_divs_cons y its _ m).1 h
    have asc0 := divs_asc its r m0 hm0
    rcases List.append_eq_append_iff.1 hch with ⟨u, h1, h2⟩ | ⟨bs, h1, h2⟩
    · -- replicate t = a ++ u, x :: b = u ++ r
      cases u with
      | nil =>
        simp only [List.nil_append] at h2
        subst h2
        simp only [List.append_nil] at h1
        obtain ⟨m', hm', hor⟩ := ih [] m0 hm0
        rw [List.nil_append] at hm'
        refine ⟨insN y.1 (y.2.1 - t).toNat m', (mem_divs_cons y its _ _).2 ⟨t, b, m', ht, by rw [h1], hm', rfl⟩, ?_⟩
        rcases hor with rfl | rfl
        · exact .inl rfl
        · exact .inr (insN_comm _ _ _ _ _ asc0)
      | cons z u =>
        simp only [List.cons_append, List.cons.injEq] at h2
        obtain ⟨rfl, h2⟩ := h2
        have hlen : t = a.length + (u.length + 1) := by
          have := congrArg List.length h1
          simpa using this
        have hall : ∀ w, w ∈ a ++ x :: u → w = y.1 := fun w hw => by
          rw [← h1] at hw
          exact (List.mem_replicate.1 hw).2
        have hx : x = y.1 := hall x (by simp)
        have e2 : a ++ b = List.replicate (t - 1) y.1 ++ r := by
          rw [h2, ← List.append_assoc]
          congr 1
          refine List.eq_replicate_iff.2 ⟨by rw [List.length_append]; omega, fun w hw => hall w ?_⟩
          rcases List.mem_append.1 hw with hw | hw
          · exact List.mem_append_left _ hw
          · exact List.mem_append_right _ (List.mem_cons_of_mem _ hw)
        refine ⟨insN y.1 (y.2.1 - ((t - 1 : Nat) : Int)).toNat m0, (mem_divs_cons y its _ _).2 ⟨t - 1, r, m0, by omega, e2, hm0, rfl⟩, ?_⟩
        by_cases hL : y.2.1 < t
        · left
          rw [show (y.2.1 - (t : Int)).toNat = 0 by omega, show (y.2.1 - ((t - 1 : Nat) : Int)).toNat = 0 by omega]
        · right
          rw [hx, show (y.2.1 - ((t - 1 : Nat) : Int)).toNat = 1 + (y.2.1 - (t : Int)).toNat by omega, insN_add _ _ _ _ asc0]
    · -- a = replicate t ++ bs, r = bs ++ x :: b
      subst h1
      obtain ⟨m', hm', hor⟩ := ih bs m0 (by rw [← h2]; exact hm0)
      refine ⟨insN y.1 (y.2.1 - t).toNat m', (mem_divs_cons y its _ _).2 ⟨t, bs ++ b, m', ht, by rw [List.append_assoc], hm', rfl⟩, ?_⟩
      rcases hor with rfl | rfl
      · exact .inl rfl
      · exact .inr (insN_comm _ _ _ _ _ asc0)

/-- what is missing is put in -/
theorem divs_ins (its : List It) (ch m : List Int) (x : Int) (hB : its.all itB = true) (h : m ∈ divs its ch) (hx : x ∈ m) :
    ∃ a b m', ch = a ++ b ∧ m' ∈ divs its (a ++ x :: b) ∧ m = insN x 1 m' := by
  induction its generalizing ch m with
  | nil => rw [((mem_divs_nil _ _).1 h).2] at hx; simp at hx
  | cons y its ih =>
    obtain ⟨t, r, m0, ht, rfl, hm0, rfl⟩ := (mem_divs_cons y its _ m).1 h
    have asc0 := divs_asc its r m0 hm0
    simp only [List.all_cons, Bool.and_eq_true] at hB
    rcases mem_insN hx with ⟨rfl, hk⟩ | hx
    · have hy := hB.1
      simp only [itB, Bool.and_eq_true, decide_eq_true_eq] at hy
      refine ⟨[], List.replicate t y.1 ++ r, insN y.1 (y.2.1 - ((t + 1 : Nat) : Int)).toNat m0, rfl, (mem_divs_cons y its _ _).2 ⟨t + 1, r, m0, by omega, by rw [List.replicate_succ]; rfl, hm0, rfl⟩, ?_⟩
      rw [show (y.2.1 - (t : Int)).toNat = 1 + (y.2.1 - ((t + 1 : Nat) : Int)).toNat by omega, insN_add _ _ _ _ asc0]
    · obtain ⟨a, b, m', rfl, hm', rfl⟩ := ih r m0 hB.2 hm0 hx
      refine ⟨List.replicate t y.1 ++ a, b, insN y.1 (y.2.1 - t).toNat m', by rw [List.append_assoc], (mem_divs_cons y its _ _).2 ⟨t, a ++ x :: b, m', ht, by rw [List.append_assoc], hm', rfl⟩, ?_⟩
      exact insN_comm _ _ _ _ _ (divs_asc its _ m' hm')

/-- two that are missing are put in, the first place first -/
theorem divs_ins2 (its : List It) (ch m : List Int) (hB : its.all itB = true) (h : m ∈ divs its ch) (hl : m.length = 2) :
    ∃ a b c x y, ch = a ++ (b ++ c) ∧ x ∈ m ∧ y ∈ m ∧ [] ∈ divs its (a ++ x :: (b ++ y :: c)) := by
  induction its generalizing ch m with
  | nil => rw [((mem_divs_nil _ _).1 h).2] at hl; simp at hl
  | cons z its ih =>
    obtain ⟨t, r, m0, ht, rfl, hm0, rfl⟩ := (mem_divs_cons z its _ m).1 h
    have asc0 := divs_asc its r m0 hm0
    simp only [List.all_cons, Bool.and_eq_true] at hB
    have hz := hB.1
    simp only [itB, Bool.and_eq_true, decide_eq_true_eq] at hz
    rw [insN_len] at hl
    have hin : ∀ w, w ∈ m0 → w ∈ insN z.1 (z.2.1 - t).toNat m0 := fun w hw => (insN_perm _ _ _).mem_iff.2 (List.mem_append_right _ hw)
    have hin2 : 0 < (z.2.1 - (t : Int)).toNat → z.1 ∈ insN z.1 (z.2.1 - t).toNat m0 := fun h0 => (insN_perm _ _ _).mem_iff.2 (List.mem_append_left _ (List.mem_replicate.2 ⟨by omega, rfl⟩))
    by_cases h0 : (z.2.1 - (t : Int)).toNat = 0
    · obtain ⟨a, b, c, x, y, rfl, hx, hy, hd⟩ := ih r m0 hB.2 hm0 (by omega)
      refine ⟨List.replicate t z.1 ++ a, b, c, x, y, by simp, hin x hx, hin y hy, (mem_divs_cons z its _ _).2 ⟨t, _, [], ht, by rw [List.append_assoc], hd, ?_⟩⟩
      rw [h0]; rfl
    · by_cases h1 : (z.2.1 - (t : Int)).toNat = 1
      · match m0, hl with
        | [y], _ =>
          obtain ⟨a, b, m', rfl, hm', e⟩ := divs_ins its r [y] y hB.2 hm0 (by simp)
          have hm0' : m' = [] := by
            have := congrArg List.length e
            rw [insN_len] at this
            exact List.length_eq_zero_iff.1 (by have h' : 1 = m'.length + 1 := this; omega)
          subst hm0'
          refine ⟨[], List.replicate t z.1 ++ a, b, z.1, y, by simp, hin2 (by omega), hin y (by simp), (mem_divs_cons z its _ _).2 ⟨t + 1, a ++ y :: b, [], by omega, by simp [List.replicate_succ], hm', ?_⟩⟩
          rw [show (z.2.1 - ((t + 1 : Nat) : Int)).toNat = 0 by omega]; rfl
        | [], hl => simp [h1] at hl
        | _ :: _ :: _, hl => simp at hl; omega
      · have hm00 : m0 = [] := List.length_eq_zero_iff.1 (by omega)
        subst hm00
        refine ⟨[], [], List.replicate t z.1 ++ r, z.1, z.1, rfl, hin2 (by omega), hin2 (by omega), (mem_divs_cons z its _ _).2 ⟨t + 2, r, [], by omega, by simp [List.replicate_succ], hm0, ?_⟩⟩
        rw [show (z.2.1 - ((t + 2 : Nat) : Int)).toNat = 0 by simp at hl; omega]; rfl

/-! ### all rules of an operation -/
def Dm (rs : List Rl) (ch m : List Int) : Prop := m ∈ divsAll rs ch
theorem dm_iff (rs : List Rl) (ch m : List Int) : Dm rs ch m ↔ ∃ r, r ∈ rs ∧ m ∈ divs r.2 ch := by
  unfold Dm divsAll
  simp only [List.mem_flatMap]
theorem dm_del {rs : List Rl} {a b : List Int} {x : Int} {m : List Int} (h : Dm rs (a ++ x :: b) m) : ∃ m', Dm rs (a ++ b) m' ∧ (m = m' ∨ m' = insN x 1 m) := by
  obtain ⟨r, hr, hm⟩ := (dm_iff _ _ _).1 h
  obtain ⟨m', h1, h2⟩ := divs_del r.2 a b x m hm
  exact ⟨m', (dm_iff _ _ _).2 ⟨r, hr, h1⟩, h2⟩
def AllB (rs : List Rl) : Prop := ∀ r, r ∈ rs → r.2.all itB = true
theorem dm_ins {rs : List Rl} {ch m : List Int} {x : Int} (hB : AllB rs) (h : Dm rs ch m) (hx : x ∈ m) : ∃ a b m', ch = a ++ b ∧ Dm rs (a ++ x :: b) m' ∧ m = insN x 1 m' := by
  obtain ⟨r, hr, hm⟩ := (dm_iff _ _ _).1 h
  obtain ⟨a, b, m', h1, h2, h3⟩ := divs_ins r.2 ch m x (hB r hr) hm hx
  exact ⟨a, b, m', h1, (dm_iff _ _ _).2 ⟨r, hr, h2⟩, h3⟩
theorem dm_ins2 {rs : List Rl} {ch m : List Int} (hB : AllB rs) (h : Dm rs ch m) (hl : m.length = 2) : ∃ a b c x y, ch = a ++ (b ++ c) ∧ x ∈ m ∧ y ∈ m ∧ Dm rs (a ++ x :: (b ++ y :: c)) [] := by
  obtain ⟨r, hr, hm⟩ := (dm_iff _ _ _).1 h
  obtain ⟨a, b, c, x, y, h1, h2, h3, h4⟩ := divs_ins2 r.2 ch m (hB r hr) hm hl
  exact ⟨a, b, c, x, y, h1, h2, h3, (dm_iff _ _ _).2 ⟨r, hr, h4⟩⟩
theorem dm_asc {rs : List Rl} {ch m : List Int} (h : Dm rs ch m) : m.Pairwise (· ≤ ·) := by
  obtain ⟨r, _, hm⟩ := (dm_iff _ _ _).1 h
  exact divs_asc r.2 ch m hm
theorem dm_wf {rs : List Rl} {ch m : List Int} (hB : AllB rs) (h : Dm rs ch m) : ∃ n, Wf n m := by
  obtain ⟨r, hr, hm⟩ := (dm_iff _ _ _).1 h
  exact ⟨_, divs_wf r.2 ch m (hB r hr) hm⟩

theorem bef_len {a b : List Int} (h : befB a b = false) : b.length ≤ a.length := by
  unfold befB at h
  by_cases e : a.length = b.length
  · omega
  · rw [if_neg e] at h; simp at h; omega
theorem bef_of_len {a b : List Int} (h : a.length < b.length) : befB a b = true := by
  unfold befB
  rw [if_neg (by omega)]; simpa using h

/-- the first one of what is missing: no division -/
theorem best_none {l : List (List Int)} (h : best l = none) (m : List Int) : m ∉ l := by
  have := best_is l
  rw [h] at this
  exact this m
theorem best_some {l : List (List Int)} {m : List Int} (h : best l = some m) : m ∈ l ∧ ∀ y, y ∈ l → befB y m = false := by
  have := best_is l
  rw [h] at this
  exact this
theorem best_mk {l : List (List Int)} {m : List Int} (h : m ∈ l) (hm : ∀ y, y ∈ l → befB y m = false) : best l = some m :=
  (best_is l).uniq (a := best l) (b := some m) (P := (· ∈ l)) ⟨h, hm⟩
theorem best_nil {l : List (List Int)} (h : [] ∈ l) : best l = some [] := best_mk h fun y _ => by
  cases y with
  | nil => exact befB_irr []
  | cons a y => unfold befB; simp
theorem best_ex {l : List (List Int)} {m : List Int} (h : m ∈ l) : ∃ b, best l = some b ∧ befB m b = false := by
  cases hb : best l with
  | none => exact absurd h (best_none hb m)
  | some b => exact ⟨b, rfl, (best_some hb).2 m h⟩
theorem best_congr {l k : List (List Int)} (h : ∀ y, y ∈ l ↔ y ∈ k) : best l = best k := ((best_is l).congr h).uniq (best_is k)

/-! ### Match on good input -/
structure Good (p : Pr) (op : Int) (ch : List Int) : Prop where
  v : validB p = true
  o : opB op = true
  c : childrenB ch = true
theorem match_good {p : Pr} {op : Int} {ch : List Int} (h : Good p op ch) : matchF p op ch =
    if (rulesOf p op).isEmpty then (([], 0) : List Int × Int) else match best (divsAll (rulesOf p op) ch) with
    | some m => (m, 0)
    | none => ([], 130) := by
  unfold matchF
  rw [h.v, h.o, h.c]
  rfl
theorem match_none {p : Pr} {op : Int} {ch : List Int} (h : Good p op ch) (hr : rulesOf p op = []) : matchF p op ch = ([], 0) := by
  rw [match_good h, hr]; rfl
theorem match_bad {p : Pr} {op : Int} {ch : List Int} (h : Good p op ch) (hr : rulesOf p op ≠ []) (hb : best (divsAll (rulesOf p op) ch) = none) : matchF p op ch = ([], 130) := by
  rw [match_good h, if_neg (by simpa using hr), hb]
theorem match_ok {p : Pr} {op : Int} {ch m : List Int} (h : Good p op ch) (hr : rulesOf p op ≠ []) (hb : best (divsAll (rulesOf p op) ch) = some m) : matchF p op ch = (m, 0) := by
  rw [match_good h, if_neg (by simpa using hr), hb]
theorem rules_allB {p : Pr} (op : Int) (h : validB p = true) : AllB (rulesOf p op) := fun r hr => by
  have h1 : r ∈ p := (List.mem_filter.1 hr).1
  simp only [validB, Bool.and_eq_true, List.all_eq_true] at h
  have := h.2 r h1
  simp only [ruleB, Bool.and_eq_true] at this
  exact this.2
theorem acc_iff {p : Pr} {op : Int} {ch : List Int} (h : Good p op ch) : accB p op ch = true ↔ rulesOf p op = [] ∨ Dm (rulesOf p op) ch [] := by
  unfold accB
  by_cases hr : rulesOf p op = []
  · rw [match_none h hr]; simp [hr]
  · cases hb : best (divsAll (rulesOf p op) ch) with
    | none =>
      rw [match_bad h hr hb]
      have := best_none hb []
      simp [hr, Dm, this]
    | some m =>
      rw [match_ok h hr hb]
      simp only [decide_true, Bool.true_and, List.isEmpty_iff, hr, false_or]
      constructor
      · rintro rfl; exact (best_some hb).1
      · intro hd
        have := bef_len ((best_some hb).2 [] hd)
        exact List.length_eq_zero_iff.1 (by simpa using this)
theorem match_err {p : Pr} {op : Int} {ch : List Int} (h : Good p op ch) : (matchF p op ch).2 = 0 ∨ (matchF p op ch).2 = 130 := by
  rw [match_good h]
  split
  · exact .inl rfl
  · split
    · exact .inl rfl
    · exact .inr rfl

/-! ### Steps -/
theorem step_law {p : Pr} {op : Int} {a b : List Int} {x : Int} (h1 : Good p op (a ++ b)) (h2 : Good p op (a ++ x :: b)) (hf : (matchF p op (a ++ x :: b)).2 = 0) :
    (matchF p op (a ++ b)).2 = 0 ∧ (matchF p op (a ++ b)).1.length ≤ (matchF p op (a ++ x :: b)).1.length + 1 := by
  by_cases hr : rulesOf p op = []
  · rw [match_none h1 hr, match_none h2 hr]; simp
  · cases hb : best (divsAll (rulesOf p op) (a ++ x :: b)) with
    | none => rw [match_bad h2 hr hb] at hf; simp at hf
    | some m =>
      obtain ⟨m', hm', hor⟩ := dm_del (best_some hb).1
      obtain ⟨m1, hb1, hbef⟩ := best_ex hm'
      rw [match_ok h2 hr hb, match_ok h1 hr hb1]
      refine ⟨rfl, ?_⟩
      have := bef_len hbef
      rcases hor with rfl | rfl
      · simp only; omega
      · rw [insN_len] at this; exact this

/-! ### Fills -/
theorem fill_law {p : Pr} {op : Int} {l : List Int} {x : Int} {rest : List Int} (h : Good p op l) (hl : l.length < 30) (hm : matchF p op l = (x :: rest, 0)) :
    ∃ k, k ≤ l.length ∧ matchF p op (insAt l k x) = (rest, 0) ∧ Good p op (insAt l k x) := by
  have hr : rulesOf p op ≠ [] := by
    intro hr
    rw [match_none h hr] at hm
    simp at hm
  have hB := rules_allB op h.v
  cases hb : best (divsAll (rulesOf p op) l) with
  | none => rw [match_bad h hr hb] at hm; simp at hm
  | some m =>
    rw [match_ok h hr hb] at hm
    obtain rfl : m = x :: rest := by simpa using hm
    obtain ⟨a, b, m', rfl, hd, he⟩ := dm_ins hB (best_some hb).1 (x := x) (by simp)
    have asc1 := dm_asc (best_some hb).1
    have asc2 := dm_asc hd
    have hrest : m' = rest := by
      refine asc_eq asc2 (List.pairwise_cons.1 asc1).2 ?_
      have hp : List.Perm (x :: rest) (x :: m') := by
        have := insN_perm x 1 m'
        rw [← he] at this
        exact this
      exact (List.Perm.cons_inv hp).symm
    subst hrest
    obtain ⟨n, wf⟩ := dm_wf hB (best_some hb).1
    have hx : opB x = true := wf.ops x (by simp)
    have g : Good p op (a ++ x :: b) := ⟨h.v, h.o, by
      have := h.c
      simp only [childrenB, List.all_append, List.all_cons, Bool.and_eq_true, decide_eq_true_eq] at this ⊢
      refine ⟨⟨this.1.1, hx, this.1.2⟩, ?_⟩
      simp only [List.length_append, List.length_cons] at hl ⊢
      omega⟩
    refine ⟨a.length, by simp, ?_, ?_⟩
    · rw [insAt_app]
      refine match_ok g hr (best_mk hd fun y hy => ?_)
      obtain ⟨y', hy', hor⟩ := dm_del hy
      have hn := (best_some hb).2 y' hy'
      cases hbef : befB y m' with
      | false => rfl
      | true =>
        exfalso
        rcases hor with rfl | rfl
        · have h1 := bef_len hn
          have h2 : befB m' y = false := by
            cases e : befB m' y with
            | false => rfl
            | true =>
              have := befB_trans hbef e
              rw [befB_irr] at this; simp at this
          have h3 := bef_len h2
          simp at h1; omega
        · rw [he] at hn
          obtain ⟨n1, w1⟩ := dm_wf hB hy
          obtain ⟨n2, w2⟩ := dm_wf hB hd
          rw [bef_insN x 1 w1 w2 hx, hbef] at hn
          simp at hn
    · rw [insAt_app]; exact g

/-! ### Least -/
def ops4 : List Int := [0, 1, 2, 3]
def reachB (p : Pr) (op : Int) (l : List Int) (many : Nat) : Bool :=
  if many = 0 then accB p op l
  else if many = 1 then (List.range (l.length + 1)).any fun i => ops4.any fun x => accB p op (insAt l i x)
  else if many = 2 then (List.range (l.length + 1)).any fun i => ops4.any fun x => (List.range (l.length + 2)).any fun j => decide (i ≤ j) && ops4.any fun y => accB p op (insAt (insAt l i x) j y)
  else false
def Four (x : Int) : Prop := 0 ≤ x ∧ x < 4
theorem mem_ops4 {x : Int} : x ∈ ops4 ↔ Four x := by
  unfold ops4 Four
  simp only [List.mem_cons, List.not_mem_nil, or_false]; omega
theorem good_ins {p : Pr} {op : Int} {l : List Int} {k : Nat} {x : Int} (h : Good p op l) (hk : k ≤ l.length) (hx : Four x) (hl : l.length < 30) : Good p op (insAt l k x) := by
  refine ⟨h.v, h.o, ?_⟩
  have := h.c
  unfold childrenB at this ⊢
  simp only [Bool.and_eq_true, decide_eq_true_eq, List.all_eq_true] at this ⊢
  refine ⟨fun y hy => ?_, by rw [insAt_len l k x hk]; omega⟩
  unfold insAt at hy
  rcases List.mem_append.1 hy with hy | hy
  · exact this.1 y (List.mem_of_mem_take hy)
  · rcases List.mem_cons.1 hy with rfl | hy
    · unfold Four at hx
      exact opB_mk hx.1 (by omega)
    · exact this.1 y (List.mem_of_mem_drop hy)
theorem insAt_split {l : List Int} {k : Nat} (x : Int) : insAt l k x = l.take k ++ x :: l.drop k := rfl
/-- what is missing after a child is taken away -/
theorem del_len {rs : List Rl} {l : List Int} {k : Nat} {x : Int} {m : List Int} (h : Dm rs (insAt l k x) m) : ∃ m', Dm rs l m' ∧ m'.length ≤ m.length + 1 := by
  obtain ⟨m', h1, h2⟩ := dm_del h
  rw [List.take_append_drop] at h1
  refine ⟨m', h1, ?_⟩
  rcases h2 with rfl | rfl
  · omega
  · rw [insN_len]; omega
theorem reach_dm {p : Pr} {op : Int} {l : List Int} {many : Nat} (h : Good p op l) (hl : l.length ≤ 7) (hr : rulesOf p op ≠ []) (hm : reachB p op l many = true) :
    ∃ m, Dm (rulesOf p op) l m ∧ m.length ≤ many := by
  unfold reachB at hm
  split at hm
  · rename_i e
    rcases (acc_iff h).1 hm with h0 | h0
    · exact absurd h0 hr
    · exact ⟨[], h0, by simp⟩
  · split at hm
    · rename_i e
      simp only [List.any_eq_true, List.mem_range] at hm
      obtain ⟨i, hi, x, hx, ha⟩ := hm
      rcases (acc_iff (good_ins h (by omega) (mem_ops4.1 hx) (by omega))).1 ha with h0 | h0
      · exact absurd h0 hr
      · obtain ⟨m, h1, h2⟩ := del_len h0
        exact ⟨m, h1, by simp at h2; omega⟩
    · split at hm
      · simp only [List.any_eq_true, List.mem_range, Bool.and_eq_true, decide_eq_true_eq] at hm
        obtain ⟨i, hi, x, hx, j, hj, hij, y, hy, ha⟩ := hm
        have g1 := good_ins h (k := i) (by omega) (mem_ops4.1 hx) (by omega)
        have hl1 := insAt_len l i x (by omega)
        rcases (acc_iff (good_ins g1 (k := j) (by omega) (mem_ops4.1 hy) (by omega))).1 ha with h0 | h0
        · exact absurd h0 hr
        · obtain ⟨m, h1, h2⟩ := del_len h0
          obtain ⟨m', h3, h4⟩ := del_len h1
          exact ⟨m', h3, by simp at h2; omega⟩
      · simp at hm
/-- the operations of all items lie in 0 to 3 -/
def Ops4 (p : Pr) : Prop := ∀ r, r ∈ p → ∀ x, x ∈ r.2 → Four x.1
theorem divs_four (its : List It) (ch m : List Int) (h4 : ∀ x, x ∈ its → Four x.1) (h : m ∈ divs its ch) : ∀ y, y ∈ m → Four y := by
  induction its generalizing ch m with
  | nil => rw [((mem_divs_nil _ _).1 h).2]; intro y hy; simp at hy
  | cons x its ih =>
    obtain ⟨t, r, m0, _, _, hm0, rfl⟩ := (mem_divs_cons x its ch m).1 h
    intro y hy
    rcases insN_mem _ _ _ _ hy with rfl | hy
    · exact h4 x (by simp)
    · exact ih r m0 (fun z hz => h4 z (by simp [hz])) hm0 y hy
theorem reach_le {p : Pr} {op : Int} {l : List Int} (h : Good p op l) (h4 : Ops4 p) (_ : rulesOf p op ≠ []) {m : List Int} (hm : Dm (rulesOf p op) l m) (hl : l.length ≤ 7) (h2 : m.length ≤ 2) :
    reachB p op l m.length = true := by
  have hB := rules_allB op h.v
  have hm4 : ∀ y, y ∈ m → Four y := by
    obtain ⟨r, hr', hmr⟩ := (dm_iff _ _ _).1 hm
    exact divs_four r.2 l m (fun x hx => h4 r (List.mem_filter.1 hr').1 x hx) hmr
  unfold reachB
  match m, h2 with
  | [], _ => rw [if_pos (by simp)]; exact (acc_iff h).2 (.inr hm)
  | [x], _ =>
    rw [if_neg (by simp), if_pos (by simp)]
    obtain ⟨a, b, m', rfl, hd, he⟩ := dm_ins hB hm (x := x) (by simp)
    have hm0 : m' = [] := by
      have := congrArg List.length he
      rw [insN_len] at this
      exact List.length_eq_zero_iff.1 (by have h' : 1 = m'.length + 1 := this; omega)
    subst hm0
    simp only [List.any_eq_true, List.mem_range]
    refine ⟨a.length, by simp; omega, x, mem_ops4.2 (hm4 x (by simp)), ?_⟩
    have hx4 := hm4 x (by simp)
    refine (acc_iff (good_ins h (by simp) hx4 (by omega))).2 (.inr ?_)
    rw [insAt_app]; exact hd
  | [u, v], _ =>
    rw [if_neg (by simp), if_neg (by simp), if_pos (by simp)]
    obtain ⟨a, b, c, x, y, rfl, hx, hy, hd⟩ := dm_ins2 hB hm rfl
    simp only [List.any_eq_true, List.mem_range, Bool.and_eq_true, decide_eq_true_eq]
    have e1 : insAt (a ++ (b ++ c)) a.length x = a ++ x :: (b ++ c) := insAt_app _ _ _
    have e2 : insAt (a ++ x :: (b ++ c)) (a.length + 1 + b.length) y = a ++ x :: (b ++ y :: c) := by
      have := insAt_app (a ++ x :: b) c y
      simp only [List.append_assoc, List.cons_append, List.length_append, List.length_cons] at this
      rw [show a.length + 1 + b.length = a.length + (b.length + 1) by omega]
      exact this
    refine ⟨a.length, by simp; omega, x, mem_ops4.2 (hm4 x hx), a.length + 1 + b.length, by simp; omega, by omega, y, mem_ops4.2 (hm4 y hy), ?_⟩
    have g1 := good_ins h (k := a.length) (by simp) (hm4 x hx) (by omega)
    rw [e1] at g1 ⊢
    have g2 := good_ins g1 (k := a.length + 1 + b.length) (by simp; omega) (hm4 y hy) (by simp at hl ⊢; omega)
    refine (acc_iff g2).2 (.inr ?_)
    rw [e2]
    exact hd
theorem least_law {p : Pr} {op : Int} {l : List Int} (h : Good p op l) (h4 : Ops4 p) (hl : l.length ≤ 7) (many : Nat) (hmany : many ≤ 2) :
    ((matchF p op l).2 = 130 → reachB p op l many = false) ∧ ((matchF p op l).2 = 0 → many < (matchF p op l).1.length → reachB p op l many = false) ∧
    ((matchF p op l).2 = 0 → many = (matchF p op l).1.length → reachB p op l many = true) := by
  by_cases hr : rulesOf p op = []
  · rw [match_none h hr]
    refine ⟨fun h => (by simp at h), fun _ h => (by simp at h), fun _ e => ?_⟩
    obtain rfl : many = 0 := e
    unfold reachB
    rw [if_pos rfl]
    exact (acc_iff h).2 (.inl hr)
  · have hd := fun hm => reach_dm (many := many) h hl hr hm
    cases hb : best (divsAll (rulesOf p op) l) with
    | none =>
      rw [match_bad h hr hb]
      refine ⟨fun _ => ?_, fun h => (by simp at h), fun h => (by simp at h)⟩
      cases e : reachB p op l many with
      | false => rfl
      | true =>
        obtain ⟨m, hm, _⟩ := hd e
        exact absurd hm (best_none hb m)
    | some m =>
      rw [match_ok h hr hb]
      refine ⟨fun h => (by simp at h), fun _ hlt => ?_, fun _ he => ?_⟩
      · cases e : reachB p op l many with
        | false => rfl
        | true =>
          obtain ⟨m', hm', hle⟩ := hd e
          have := bef_len ((best_some hb).2 m' hm')
          simp only at hlt; omega
      · subst he
        exact reach_le h h4 hr (best_some hb).1 hl hmany

/-! ### Alternatives -/
theorem rules_reverse (p : Pr) (op : Int) : rulesOf p.reverse op = (rulesOf p op).reverse := by
  unfold rulesOf; rw [List.filter_reverse]
theorem valid_reverse (p : Pr) : validB p.reverse = validB p := by
  unfold validB
  rw [List.length_reverse, List.all_reverse]
theorem match_reverse (p : Pr) (op : Int) (ch : List Int) : matchF p.reverse op ch = matchF p op ch := by
  unfold matchF
  rw [valid_reverse, rules_reverse]
  have e : best (divsAll (rulesOf p op).reverse ch) = best (divsAll (rulesOf p op) ch) := best_congr fun y => by
    unfold divsAll; simp only [List.mem_flatMap, List.mem_reverse]
  rw [e, List.isEmpty_reverse]
theorem valid_snoc {p : Pr} {r : Rl} (h : validB p = true) (hr : ruleB r = true) (hl : p.length < 24) : validB (p ++ [r]) = true := by
  simp only [validB, Bool.and_eq_true, decide_eq_true_eq, List.all_append, List.length_append, List.length_cons, List.length_nil, List.all_cons, List.all_nil, Bool.and_true] at h ⊢
  exact ⟨by omega, h.2, hr⟩
theorem match_other {p : Pr} {op : Int} {ch : List Int} {r : Rl} (h : Good p op ch) (hr : ruleB r = true) (hl : p.length < 24) (hne : r.1 ≠ op) : matchF (p ++ [r]) op ch = matchF p op ch := by
  have h2 : Good (p ++ [r]) op ch := ⟨valid_snoc h.v hr hl, h.o, h.c⟩
  rw [match_good h, match_good h2]
  have e : rulesOf (p ++ [r]) op = rulesOf p op := by
    unfold rulesOf
    rw [List.filter_append]
    simp [hne]
  rw [e]
theorem match_more {p : Pr} {op : Int} {ch : List Int} {r : Rl} (h : Good p op ch) (hr : ruleB r = true) (hl : p.length < 24) (he : r.1 = op) (hne : rulesOf p op ≠ []) (hok : (matchF p op ch).2 = 0) :
    (matchF (p ++ [r]) op ch).2 = 0 ∧ (matchF (p ++ [r]) op ch).1.length ≤ (matchF p op ch).1.length := by
  have h2 : Good (p ++ [r]) op ch := ⟨valid_snoc h.v hr hl, h.o, h.c⟩
  have e : rulesOf (p ++ [r]) op = rulesOf p op ++ [r] := by
    unfold rulesOf
    rw [List.filter_append]
    simp [he]
  cases hb : best (divsAll (rulesOf p op) ch) with
  | none => rw [match_bad h hne hb] at hok; simp at hok
  | some m =>
    have hin : m ∈ divsAll (rulesOf (p ++ [r]) op) ch := by
      rw [e]
      have := (best_some hb).1
      unfold divsAll at this ⊢
      rw [List.flatMap_append]
      exact List.mem_append_left _ this
    obtain ⟨b, hb2, hbef⟩ := best_ex hin
    rw [match_ok h hne hb, match_ok h2 (by rw [e]; simp) hb2]
    exact ⟨rfl, bef_len hbef⟩
end Go.Proofs.YteilaajjpjhijaaDoor
