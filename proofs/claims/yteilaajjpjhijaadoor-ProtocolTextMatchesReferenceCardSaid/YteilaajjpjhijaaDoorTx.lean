/- The plain text of protocols: what is printed, how it is read by the program, how by the reference; both readings are one. No walk. -/
import Derived.Test.YteilaajjpjhijaaDoorSpec
import Derived.Lib.Atoi
import Derived.Lib.ItoaNum
import Derived.Lib.IndexAny
namespace PSpec
open Go

abbrev Bs := List UInt8
def dgs (n : Int) : Bs := Lib.decDigits n.toNat
def itemS (x : It) : Bs := 32 :: (dgs x.1 ++ 42 :: (dgs x.2.1 ++ 45 :: dgs x.2.2))
def lineS (r : Rl) : Bs := dgs r.1 ++ 58 :: (r.2.flatMap itemS ++ [10])
def printS (p : Pr) : Bs := p.flatMap lineS
def printF (p : Pr) : Bs × Int := if validB p then (printS p, 0) else ([], 130)

/-- a number that ends before one of some bytes -/
def numP (ends s : Bs) : Int × Bs :=
  if Lib.indexAny s ends < 0 ∨ 2 < Lib.indexAny s ends then (-1, s) else
    match Lib.atoi (s.take (Lib.indexAny s ends).toNat) with
    | none => (-1, s)
    | some n => (n, s.drop (Lib.indexAny s ends).toNat)
def hasP (c : UInt8) (s : Bs) : Bool := s.head? == some c
def skipP (c : UInt8) (s : Bs) : Bs := if hasP c s then s.tail else s
def itP (t : Bs) : It × Bs :=
  let a := numP [42] t
  let b := numP [45] (skipP 42 a.2)
  let c := numP [32, 10] (skipP 45 b.2)
  ((a.1, b.1, c.1), c.2)
def loopP : Nat → Rl → Bs → Option (Rl × Bs)
  | 0, _, _ => none
  | k + 1, x, s => if hasP 32 s then
      (if ruleB (x.1, x.2 ++ [(itP s.tail).1]) then loopP k (x.1, x.2 ++ [(itP s.tail).1]) (itP s.tail).2 else none)
    else some (x, s)
def endP (s : Bs) : Option (Rl × Bs) → Option (Rl × Bs)
  | none => none
  | some (x, t) => if hasP 10 t && ruleB x && (lineS x).isPrefixOf s then some (x, t.tail) else none
def ruleP (s : Bs) : Option (Rl × Bs) :=
  if hasP 58 (numP [58] s).2 then endP s (loopP 8 ((numP [58] s).1, []) (numP [58] s).2.tail) else none

theorem dgs_small (n : Int) (h0 : 0 ≤ n) (h1 : n < 100) : (n < 10 ∧ dgs n = [UInt8.ofNat (48 + n.toNat)]) ∨ (10 ≤ n ∧ dgs n = [UInt8.ofNat (48 + n.toNat / 10), UInt8.ofNat (48 + n.toNat % 10)]) := by
  unfold dgs
  by_cases h : n < 10
  · left
    refine ⟨h, ?_⟩
    rw [Lib.decDigits, dif_pos (by omega)]
  · right
    refine ⟨by omega, ?_⟩
    rw [Lib.decDigits, dif_neg (by omega), Lib.decDigits, dif_pos (by omega)]
    rfl
def isDig (b : UInt8) : Bool := decide (48 ≤ b.toNat) && decide (b.toNat ≤ 57)
theorem dig_of (k : Nat) (h : k < 10) : (UInt8.ofNat (48 + k)).toNat = 48 + k := by
  rw [UInt8.toNat_ofNat']; omega
theorem isDig_of (k : Nat) (h : k < 10) : isDig (UInt8.ofNat (48 + k)) = true := by
  unfold isDig; rw [dig_of k h]; simp; omega
theorem dgs_dig (n : Int) (h0 : 0 ≤ n) (h1 : n < 100) : ∀ b, b ∈ dgs n → isDig b = true := by
  intro b hb
  rcases dgs_small n h0 h1 with ⟨h, e⟩ | ⟨h, e⟩
  · rw [e] at hb
    simp only [List.mem_cons, List.not_mem_nil, or_false] at hb
    subst hb
    exact isDig_of _ (by omega)
  · rw [e] at hb
    simp only [List.mem_cons, List.not_mem_nil, or_false] at hb
    rcases hb with rfl | rfl
    · exact isDig_of _ (by omega)
    · exact isDig_of _ (by omega)
theorem dgs_len (n : Int) (h0 : 0 ≤ n) (h1 : n < 100) : 1 ≤ (dgs n).length ∧ (dgs n).length ≤ 2 := by
  rcases dgs_small n h0 h1 with ⟨h, e⟩ | ⟨h, e⟩ <;> rw [e] <;> simp
theorem digitVal_of (k : Nat) (h : k < 10) : Lib.digitVal (UInt8.ofNat (48 + k)) = some k := by
  unfold Lib.digitVal
  rw [dig_of k h, if_pos (by omega)]
  congr 1; omega
theorem ne_of_dig {b : UInt8} {k : Nat} (h : isDig b = true) (hk : k < 48 ∨ 57 < k) (hk2 : k < 256) : (b == UInt8.ofNat k) = false := by
  unfold isDig at h
  simp only [Bool.and_eq_true, decide_eq_true_eq] at h
  simp only [beq_eq_false_iff_ne, ne_eq]
  rintro rfl
  rw [UInt8.toNat_ofNat'] at h
  omega
theorem atoi_plain (b : UInt8) (r : Bs) (h : isDig b = true) : Lib.atoi (b :: r) = (Lib.decNat (b :: r)).map fun (m : Nat) => (m : Int) := by
  have n1 : (b == 45) = false := ne_of_dig (k := 45) h (by omega) (by omega)
  have n2 : (b == 43) = false := ne_of_dig (k := 43) h (by omega) (by omega)
  show (if (b == 45) = true then _ else if (b == 43) = true then _ else _) = _
  rw [n1, n2]
  rfl
theorem atoi_dgs (n : Int) (h0 : 0 ≤ n) (h1 : n < 100) : Lib.atoi (dgs n) = some n := by
  rcases dgs_small n h0 h1 with ⟨h, e⟩ | ⟨h, e⟩
  · rw [e]
    have hd := isDig_of n.toNat (by omega)
    rw [atoi_plain _ _ hd]
    simp only [Lib.decNat, List.isEmpty_cons, Bool.false_eq_true, if_false, Lib.decFrom, digitVal_of n.toNat (by omega), Option.map_some]
    congr 1; omega
  · rw [e]
    have hd := isDig_of (n.toNat / 10) (by omega)
    rw [atoi_plain _ _ hd]
    simp only [Lib.decNat, List.isEmpty_cons, Bool.false_eq_true, if_false, Lib.decFrom, digitVal_of (n.toNat / 10) (by omega), digitVal_of (n.toNat % 10) (by omega), Option.map_some]
    congr 1; omega
theorem index_dgs (l ends t : Bs) (c : UInt8) (hl : ∀ b, b ∈ l → ends.contains b = false) (hc : ends.contains c = true) : Lib.indexAny (l ++ c :: t) ends = l.length := by
  refine Lib.indexAny_hit (x := c) (fun j b hj hb => ?_) (by simp) hc
  rw [List.getElem?_append_left hj] at hb
  exact hl b (List.mem_of_getElem? hb)
theorem numP_dgs (ends t : Bs) (c : UInt8) (n : Int) (h0 : 0 ≤ n) (h1 : n < 100) (he : ∀ b, b ∈ ends → isDig b = false) (hc : ends.contains c = true) : numP ends (dgs n ++ c :: t) = (n, c :: t) := by
  have hi := index_dgs (dgs n) ends t c (fun b hb => by
    cases hcb : ends.contains b with
    | false => rfl
    | true =>
      have h2 := he b (by simpa using hcb)
      rw [dgs_dig n h0 h1 b hb] at h2
      simp at h2) hc
  have hl := dgs_len n h0 h1
  unfold numP
  rw [hi, if_neg (by omega), Int.toNat_natCast, List.take_left, List.drop_left, atoi_dgs n h0 h1]
theorem op_lt {n : Int} (h : opB n = true) : 0 ≤ n ∧ n < 100 := by
  simp only [opB, Bool.and_eq_true, decide_eq_true_eq] at h
  omega
theorem it_lt {x : It} (h : itB x = true) : (0 ≤ x.1 ∧ x.1 < 100) ∧ (0 ≤ x.2.1 ∧ x.2.1 < 100) ∧ (0 ≤ x.2.2 ∧ x.2.2 < 100) := by
  simp only [itB, opB, Bool.and_eq_true, decide_eq_true_eq] at h
  omega
theorem skipP_cons (c : UInt8) (s : Bs) : skipP c (c :: s) = s := by simp [skipP, hasP]
theorem hasP_cons (c d : UInt8) (s : Bs) : hasP c (d :: s) = (d == c) := by simp [hasP]
theorem itP_item (x : It) (c : UInt8) (t : Bs) (h : itB x = true) (hc : c = 32 ∨ c = 10) : itP ((itemS x).tail ++ c :: t) = (x, c :: t) := by
  obtain ⟨⟨a0, a1⟩, ⟨b0, b1⟩, c0, c1⟩ := it_lt h
  unfold itP itemS
  simp only [List.tail_cons, List.append_assoc, List.cons_append]
  rw [numP_dgs [42] _ 42 x.1 a0 a1 (by decide) (by decide)]
  simp only
  rw [skipP_cons, numP_dgs [45] _ 45 x.2.1 b0 b1 (by decide) (by decide)]
  simp only
  rw [skipP_cons, numP_dgs [32, 10] _ c x.2.2 c0 c1 (by decide) (by rcases hc with rfl | rfl <;> decide)]
theorem rule_pre {op : Int} {pre its : List It} (h : ruleB (op, pre ++ its) = true) : ruleB (op, pre) = true := by
  simp only [ruleB, Bool.and_eq_true, decide_eq_true_eq, List.length_append, List.all_append] at h ⊢
  exact ⟨⟨h.1.1, by omega⟩, h.2.1⟩
theorem loopP_items (op : Int) (r : Bs) : ∀ (its pre : List It) (k : Nat), its.length < k → ruleB (op, pre ++ its) = true →
    loopP k (op, pre) (its.flatMap itemS ++ 10 :: r) = some ((op, pre ++ its), 10 :: r) := by
  intro its
  induction its with
  | nil =>
    intro pre k hk _
    cases k with
    | zero => omega
    | succ k => simp [loopP, hasP]
  | cons x its ih =>
    intro pre k hk h
    cases k with
    | zero => omega
    | succ k =>
      have e : pre ++ x :: its = (pre ++ [x]) ++ its := by simp
      have hx : itB x = true := by
        simp only [ruleB, Bool.and_eq_true, List.all_append, List.all_cons] at h
        exact h.2.2.1
      have e2 : (x :: its).flatMap itemS ++ 10 :: r = 32 :: ((itemS x).tail ++ (its.flatMap itemS ++ 10 :: r)) := by
        simp [itemS]
      have e3 : ∃ c t, its.flatMap itemS ++ 10 :: r = c :: t ∧ (c = 32 ∨ c = 10) := by
        cases its with
        | nil => exact ⟨10, r, rfl, .inr rfl⟩
        | cons y its => exact ⟨32, _, by simp only [List.flatMap_cons, itemS, List.cons_append]; rfl, .inl rfl⟩
      obtain ⟨c, t, ec, hc⟩ := e3
      rw [e2]
      unfold loopP
      rw [if_pos (by rw [hasP_cons]; rfl), List.tail_cons, ec, itP_item x c t hx hc]
      simp only
      rw [if_pos (rule_pre (by rw [← e]; exact h)), ← ec, ih (pre ++ [x]) k (by simpa using hk) (by rw [← e]; exact h), ← e]
theorem pre_self (l r : Bs) : l.isPrefixOf (l ++ r) = true := List.isPrefixOf_iff_prefix.2 ⟨r, rfl⟩
theorem ruleP_line (x : Rl) (r : Bs) (h : ruleB x = true) : ruleP (lineS x ++ r) = some (x, r) := by
  obtain ⟨op, its⟩ := x
  have hop : opB op = true := by
    simp only [ruleB, Bool.and_eq_true] at h
    exact h.1.1
  have hl : its.length ≤ 6 := by
    simp only [ruleB, Bool.and_eq_true, decide_eq_true_eq] at h
    exact h.1.2
  obtain ⟨o0, o1⟩ := op_lt hop
  have e : lineS (op, its) ++ r = dgs op ++ 58 :: (its.flatMap itemS ++ 10 :: r) := by simp [lineS]
  have hn : numP [58] (lineS (op, its) ++ r) = (op, 58 :: (its.flatMap itemS ++ 10 :: r)) := by
    rw [e]; exact numP_dgs [58] _ 58 op o0 o1 (by decide) (by decide)
  unfold ruleP
  rw [hn]
  simp only
  rw [if_pos (by rw [hasP_cons]; rfl), List.tail_cons, loopP_items op r its [] 8 (by omega) h]
  simp only [List.nil_append, endP]
  rw [if_pos (by rw [hasP_cons, h, pre_self]; rfl), List.tail_cons]
theorem ruleP_some {s r : Bs} {x : Rl} (h : ruleP s = some (x, r)) : ruleB x = true ∧ s = lineS x ++ r := by
  have h' := h
  unfold ruleP at h
  split at h
  · unfold endP at h
    split at h
    · simp at h
    · rename_i y t _
      split at h
      · rename_i hc
        simp only [Bool.and_eq_true] at hc
        obtain ⟨⟨_, hc2⟩, hc3⟩ := hc
        obtain ⟨rfl, rfl⟩ : y = x ∧ t.tail = r := by simpa using h
        obtain ⟨r', hr'⟩ := List.isPrefixOf_iff_prefix.1 hc3
        have := ruleP_line y r' hc2
        rw [hr', h'] at this
        have e : t.tail = r' := by simpa using this
        exact ⟨hc2, by rw [e]; exact hr'.symm⟩
      · simp at h
  · simp at h
theorem ruleP_none {s : Bs} (h : ruleP s = none) (x : Rl) (hx : ruleB x = true) : (lineS x).isPrefixOf s = false := by
  cases hp : (lineS x).isPrefixOf s with
  | false => rfl
  | true =>
    obtain ⟨r, hr⟩ := List.isPrefixOf_iff_prefix.1 hp
    have := ruleP_line x r hx
    rw [hr, h] at this
    simp at this

/-! ### parsing -/
def parseGo : Nat → Pr → Bs → Pr × Int × Int
  | 0, _, _ => ([], 0, 0)
  | k + 1, p, s => if s.isEmpty then (p, 0, 0) else if p.length = 24 then ([], 25, 130) else
      match ruleP s with
      | none => ([], (p.length : Int) + 1, 130)
      | some (x, t) => parseGo k (p ++ [x]) t
def parseF (s : Bs) : Pr × Int × Int := parseGo (s.length + 1) [] s
theorem line_pos (x : Rl) : 0 < (lineS x).length := by simp [lineS]; omega
theorem ruleP_lt {s r : Bs} {x : Rl} (h : ruleP s = some (x, r)) : r.length < s.length := by
  have := (ruleP_some h).2
  have hp := line_pos x
  rw [this, List.length_append]; omega
theorem parseGo_print : ∀ (q p : Pr) (k : Nat), (printS q).length < k → validB (p ++ q) = true → parseGo k p (printS q) = (p ++ q, 0, 0) := by
  intro q
  induction q with
  | nil =>
    intro p k hk _
    cases k with
    | zero => omega
    | succ k => simp [parseGo, printS]
  | cons x q ih =>
    intro p k hk h
    cases k with
    | zero => omega
    | succ k =>
      have e : printS (x :: q) = lineS x ++ printS q := rfl
      have hp := line_pos x
      have e2 : p ++ x :: q = (p ++ [x]) ++ q := by simp
      have hx : ruleB x = true ∧ p.length < 24 := by
        simp only [validB, Bool.and_eq_true, decide_eq_true_eq, List.all_append, List.all_cons, List.length_append, List.length_cons] at h
        exact ⟨h.2.2.1, by omega⟩
      unfold parseGo
      have hne : (printS (x :: q)).isEmpty = false := by
        rw [e]
        cases hls : lineS x with
        | nil => rw [hls] at hp; simp at hp
        | cons a l => rfl
      rw [hne, if_neg (by simp), if_neg (by omega), e, ruleP_line x _ hx.1]
      simp only
      rw [ih (p ++ [x]) k (by rw [e, List.length_append] at hk; omega) (by rw [← e2]; exact h), ← e2]
theorem parse_print (p : Pr) (h : validB p = true) : parseF (printS p) = (p, 0, 0) := parseGo_print p [] _ (Nat.lt_succ_self _) h
theorem parseGo_some : ∀ (k : Nat) (p : Pr) (s : Bs), s.length < k → validB p = true → 
    ((parseGo k p s).2.2 = 0 ∧ (parseGo k p s).2.1 = 0 ∧ validB (parseGo k p s).1 = true ∧ printS (parseGo k p s).1 = printS p ++ s) ∨
    ((parseGo k p s).2.2 = 130 ∧ 1 ≤ (parseGo k p s).2.1 ∧ (parseGo k p s).1 = []) := by
  intro k
  induction k with
  | zero => intro p s hk; omega
  | succ k ih =>
    intro p s hk hv
    unfold parseGo
    cases hs : s with
    | nil => left; simp [hv]
    | cons a t =>
      rw [if_neg (by simp)]
      by_cases h24 : p.length = 24
      · rw [if_pos h24]; right; simp
      · rw [if_neg h24, ← hs]
        cases hr : ruleP s with
        | none => right; exact ⟨rfl, (by show (1 : Int) ≤ (p.length : Int) + 1; omega), rfl⟩
        | some q =>
          obtain ⟨x, r⟩ := q
          simp only
          obtain ⟨hx, hsr⟩ := ruleP_some hr
          have hlt := ruleP_lt hr
          have hv2 : validB (p ++ [x]) = true := by
            simp only [validB, Bool.and_eq_true, decide_eq_true_eq, List.all_append, List.all_cons, List.all_nil, Bool.and_true, List.length_append, List.length_cons, List.length_nil] at hv ⊢
            exact ⟨by omega, hv.2, hx⟩
          rcases ih (p ++ [x]) r (by omega) hv2 with ⟨h1, h2, h3, h4⟩ | h
          · left
            refine ⟨h1, h2, h3, ?_⟩
            rw [h4, hsr]
            simp [printS]
          · right; exact h
theorem parse_some (s : Bs) : ((parseF s).2.2 = 0 ∧ (parseF s).2.1 = 0 ∧ validB (parseF s).1 = true ∧ printS (parseF s).1 = s) ∨ ((parseF s).2.2 = 130 ∧ 1 ≤ (parseF s).2.1 ∧ (parseF s).1 = []) :=
  parseGo_some (s.length + 1) [] s (Nat.lt_succ_self _) rfl
end PSpec
