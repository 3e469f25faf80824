/- Walks of the iterator takes and of its function. -/
import Derived.Test.YteilaajjpjhijaaDoorMid
import Derived.Test.YteilaajjpjhijaaDoorW5
import Derived.OwnWalkIn
import Derived.TacticsInMore
import Derived.LoopNIn
import Derived.LoopIn
namespace Go.Proofs.YteilaajjpjhijaaDoor
open Go.RowKit PSpec

theorem tw_get {α : Type} (p : α → Bool) (l : List α) (k : Nat) (h : k < (l.takeWhile p).length) : ∃ y, l[k]? = some y ∧ p y = true := by
  induction l generalizing k with
  | nil => simp at h
  | cons a l ih =>
    simp only [List.takeWhile_cons] at h
    cases hp : p a with
    | false => simp [hp] at h
    | true =>
      simp only [hp, if_true, List.length_cons] at h
      cases k with
      | zero => exact ⟨a, rfl, hp⟩
      | succ k => simpa using ih k (by omega)
theorem tw_stop {α : Type} (p : α → Bool) (l : List α) (y : α) (h : l[(l.takeWhile p).length]? = some y) : p y = false := by
  induction l with
  | nil => simp at h
  | cons a l ih =>
    simp only [List.takeWhile_cons] at h
    cases hp : p a with
    | false => simp [hp] at h; subst h; exact hp
    | true =>
      simp only [hp, if_true, List.length_cons, List.getElem?_cons_succ] at h
      exact ih h

theorem maxT_lt (x : It) (ch : List Int) (t : Nat) (h : t < maxT x ch) : (t : Int) < x.2.2 ∧ t < ch.length ∧ ch[t]? = some x.1 := by
  obtain ⟨y, hy, hp⟩ := tw_get _ _ t h
  rw [List.getElem?_take] at hy
  split at hy
  · rename_i hlt
    have : y = x.1 := by simpa using hp
    subst this
    exact ⟨by omega, (List.getElem?_eq_some_iff.1 hy).1, hy⟩
  · cases hy
theorem maxT_stop (x : It) (ch : List Int) (y : Int) (h1 : (maxT x ch : Int) < x.2.2) (hy : ch[maxT x ch]? = some y) : y ≠ x.1 := by
  have h := tw_stop (fun y => decide (y = x.1)) (ch.take x.2.2.toNat) y (by
    rw [List.getElem?_take, if_pos (by unfold maxT at h1; omega)]; exact hy)
  simpa using h

set_option maxHeartbeats 400000 in
theorem f52_any (x : It) (cv : Value) (w : World) (hcv : ∃ a n c, cv = .slice a n c) :
    Calls Tryd.prog 52 #[itV x, cv] w fun e w' => e = .returned (.func (.func 68) #[] #[.pointer (some ⟨w.heap.size, 0, none⟩), .pointer (some ⟨w.heap.size + 1, 0, none⟩)]) ∧
      w' = (w.alloc (.cells #[.int .i64 x.1, .int .i64 x.2.1, .int .i64 x.2.2] 59)).alloc (.cells #[cv] 26) := by
  obtain ⟨a, n, c, rfl⟩ := hcv
  have hmf : ∀ (fn : Fn) (first cap : Array Value) (w : World), (Instr.makeFunc fn first cap).run Tryd.prog w = .ok (.func fn first cap) w := fun _ _ _ _ => rfl
  unfold itV
  go_enter Tryd.func52, Tryd.ntmps52
  go_wp2
  go_ret
  exact ⟨rfl, rfl⟩

def P68 (P : Program) (ops : Array Oper) (E : Nat → Bool) (S : World → Prop) (aF : Act) (h : Nat) : Nat → List Oper → Prop
  | _, [] => True
  | i, o :: r => (if i = h then True else LightAt P ops (if E i then fun _ => True else S) aF o) ∧ P68 P ops E S aF h (i + 1) r
theorem P68_get {P : Program} {ops : Array Oper} {E : Nat → Bool} {S : World → Prop} {aF : Act} {h : Nat} (l : List Oper) : ∀ k, P68 P ops E S aF h k l → ∀ i o, l[i]? = some o → k + i ≠ h → LightAt P ops (if E (k + i) then fun _ => True else S) aF o := by
  induction l with
  | nil => intro k _ i o hi; simp at hi
  | cons x l ih =>
    intro k hp i o hi hne
    cases i with
    | zero =>
      obtain rfl : x = o := by simpa using hi
      have := hp.1
      rw [if_neg (by simpa using hne)] at this
      exact this
    | succ i =>
      have := ih (k + 1) hp.2 i o (by simpa using hi) (by omega)
      rw [show k + 1 + i = k + (i + 1) by omega] at this
      exact this

theorem wpIn_region_mid_lit {F : Fence} {n : Nat} {P : Program} {l : List Oper} {Q : Exit → Act → World → Prop} {id : Nat} {a : Act} {w : World} (m h : Nat) (E : Nat → Bool) (aF : Act) (S : World → Prop) (hF : ∀ f, F.fn f) (hdp : F.depth = none) (hm : P.follows .mixedOrders = true) (hck : ckM l.toArray m h E = true)
    (hsize : a.tmps.size = aF.tmps.size) (hdef : a.defers = aF.defers) (hsame : ∀ t, (∀ i, i < m → dstOf l.toArray i ≠ some t) → a.tmps[t]? = aF.tmps[t]?)
    (hl : P68 P l.toArray E S aF h 0 l) (oh : Oper) (hoh : l[h]? = some oh) (hw : Region.wanted oh (yielded l.toArray aF.tmps) = true) (d : Tmp) (v : Value) (r : Nat) (f : FuncId) (tmps : Array Value) (assign body : Code) (w' : World)
    (hd : oh.dst = some d) (hv : aF.tmps[d]? = some v) (hrun : (execOp aF.eval oh).run P w.drew = .ok (.round r f tmps assign body) w')
    (hround : RoundIn F (n - 1) P r f tmps assign body w' fun e w1 => e = .returned v ∧ S w1)
    (hQ : ∀ w, S w → Q .normal aF w) : (Code.region id l.toArray true).wpIn F n P Q a w := by
  refine wpIn_region_mid m h E aF S hF hdp hm hck hsize hdef hsame (fun i o _ hne ho => ?_) (fun o ho => ?_) hQ
  · have := P68_get l 0 hl i o (by simpa using ho) (by omega)
    rwa [Nat.zero_add] at this
  · have e : l[h]? = some o := by simpa using ho
    rw [hoh] at e; cases e
    exact ⟨hw, d, v, r, f, tmps, assign, body, w', hd, hv, hrun, hround⟩

def E68 (i : Nat) : Bool := i == 0 || i == 1

set_option maxHeartbeats 4000000 in
theorem f68_any (l bx bc : Nat) (x : It) (a : Option Addr) (cap b o : Nat) (ch : List Int) (J : Nat → World → Prop)
    (hJ : ∀ t W, J t W → W.cell? ⟨bx, 0, none⟩ = some (.int .i64 x.1) ∧ W.cell? ⟨bx, 2, none⟩ = some (.int .i64 x.2.2) ∧ W.cell? ⟨bc, 0, none⟩ = some (.slice a ch.length cap) ∧
      ∀ i y, ch[i]? = some y → W.cell? ⟨b, o + i, none⟩ = some (.int .i64 y))
    (ha : ch ≠ [] → a = some ⟨b, o, none⟩) (hd : ∀ t W, J t W → J t W.drew) (hm : x.2.2 ≤ 9) (hlen : ch.length ≤ 30)
    (hY : ∀ t W, t ≤ maxT x ch → J t W → ∃ fn tmps assign body, (Instr.yield l #[.int .i64 t]).run Tryd.prog W = .ok (.round l fn tmps assign body) W ∧
      RoundIn Fence.wide 0 Tryd.prog l fn tmps assign body W fun e W' => e = .returned (.bool true) ∧ J (t + 1) W')
    (W : World) (h0 : J 0 W) :
    CallsIn Fence.wide 0 Tryd.prog 68 #[.func (.yield l) #[] #[], .pointer (some ⟨bx, 0, none⟩), .pointer (some ⟨bc, 0, none⟩)] W fun e W' => (∃ v, e = .returned v) ∧ J (maxT x ch + 1) W' := by
  have hF : ∀ f, Fence.wide.fn f := fun _ => trivial
  refine callsIn_of_wp Tryd.func68 rfl (hF _) ?_ rfl
  simp only [Tryd.ntmps68, List.size_toArray, List.length_cons, List.length_nil, Nat.reduceAdd, Nat.reduceSub, Array.replicate_succ, Array.replicate_zero, List.push_toArray, List.append_toArray, List.nil_append, List.cons_append]
  gi_wp2
  gi_loopw [4] (fun i wr => ∃ t : Nat, t ≤ maxT x ch ∧ i = .int .i64 t ∧ J t wr) (fun i _ => maxT x ch + 1 - (intOf i).toNat)
  case atStart => exact ⟨0, Nat.zero_le _, rfl, h0⟩
  case round =>
    obtain ⟨t, ht, rfl, hj⟩ := hrel
    obtain ⟨fn, tmps, assign, body, hy, hR⟩ := hY t _ ht (hd _ _ hj)
    have HY := Lib.hid hy
    have HR := Lib.hid hR
    have HJ := Lib.hid hJ
    clear hy hR hY hJ h0
    by_cases hlt : t < maxT x ch
    · obtain ⟨q1, q2, q3⟩ := maxT_lt x ch t hlt
      obtain rfl := ha (by rintro rfl; simp at q2)
      gi_wp2_with fail
      refine wpIn_region_mid_lit 24 2 E68 { tmps := #[(.func (.yield l) #[] #[]), (.pointer (some ⟨bx, 0, none⟩)), (.pointer (some ⟨bc, 0, none⟩)), undef, (.int .i64 t), (.func (.yield l) #[] #[]), (.int .i64 t), (.bool true), (.bool true), (.int .i64 t), (.pointer (some ⟨bx, 2, none⟩)), (.int .i64 x.2.2), (.bool true), (.bool true), (.bool true), (.int .i64 t), (.slice (some ⟨b, o, none⟩) ch.length cap), (.int .i64 ch.length), (.bool true), (.bool true), (.bool true), (.slice (some ⟨b, o, none⟩) ch.length cap), (.int .i64 t), (.pointer (some ⟨b, o + t, none⟩)), (.int .i64 x.1), (.pointer (some ⟨bx, 0, none⟩)), (.int .i64 x.1), (.bool true), (.bool true), u29, u30], defers := [] } (J (t + 1)) hF rfl (by kernel_rfl) (by kernel_rfl) rfl rfl ?_ ?_ _ rfl rfl _ _ l fn tmps assign body _ rfl rfl (by go_simp; exact HY.out) HR.out ?_
      · intro s hs
        match s, hs with
        | 0, _ => rfl
        | 1, _ => rfl
        | 2, _ => rfl
        | 3, _ => rfl
        | 4, _ => rfl
        | 5, hs => exact absurd rfl (hs 0 (by decide))
        | 6, hs => exact absurd rfl (hs 1 (by decide))
        | 7, hs => exact absurd rfl (hs 2 (by decide))
        | 8, hs => exact absurd rfl (hs 3 (by decide))
        | 9, hs => exact absurd rfl (hs 4 (by decide))
        | 10, hs => exact absurd rfl (hs 5 (by decide))
        | 11, hs => exact absurd rfl (hs 6 (by decide))
        | 12, hs => exact absurd rfl (hs 7 (by decide))
        | 13, hs => exact absurd rfl (hs 8 (by decide))
        | 14, hs => exact absurd rfl (hs 9 (by decide))
        | 15, hs => exact absurd rfl (hs 10 (by decide))
        | 16, hs => exact absurd rfl (hs 11 (by decide))
        | 17, hs => exact absurd rfl (hs 12 (by decide))
        | 18, hs => exact absurd rfl (hs 13 (by decide))
        | 19, hs => exact absurd rfl (hs 14 (by decide))
        | 20, hs => exact absurd rfl (hs 15 (by decide))
        | 21, hs => exact absurd rfl (hs 16 (by decide))
        | 22, hs => exact absurd rfl (hs 17 (by decide))
        | 23, hs => exact absurd rfl (hs 18 (by decide))
        | 24, hs => exact absurd rfl (hs 19 (by decide))
        | 25, hs => exact absurd rfl (hs 20 (by decide))
        | 26, hs => exact absurd rfl (hs 21 (by decide))
        | 27, hs => exact absurd rfl (hs 22 (by decide))
        | 28, hs => exact absurd rfl (hs 23 (by decide))
        | 29, _ => rfl
        | 30, _ => rfl
        | s + 31, _ => rfl
      · clear HY HR
        repeat' (first | exact trivial | refine And.intro ?_ ?_)
        all_goals first
          | (rw [if_pos rfl]; exact trivial)
          | (rw [if_neg (by decide)]; refine ⟨_, _, rfl, rfl, ?_⟩; first | exact Or.inr ⟨rfl, rfl⟩ | skip)
        all_goals refine Or.inl ⟨rfl, fun w' hS => ?_⟩
        all_goals first
          | (have hS1 : J (t + 1) w' := hS; obtain ⟨j1, j2, j3, j4⟩ := HJ.out _ _ hS1; have j5 := j4 _ _ q3; clear hS hS1 HJ j4; go_simp; done)
          | (clear HJ hS; go_simp; done)
          | (clear HJ hS; go_simp; go_outline)
      · intro w1 hS1
        gi_wp2
        go_roundw
        case rel => exact ⟨t + 1, by omega, by go_num, hS1⟩
        case measure => simp [intOf]; omega
    · obtain ⟨T, hT⟩ : ∃ T, T = maxT x ch := ⟨_, rfl⟩
      have hst := maxT_stop x ch
      rw [← hT] at hlt ht hst ⊢
      obtain rfl : t = T := by omega
      have HT := Lib.hid hT
      clear hT
      by_cases q1 : (t : Int) < x.2.2
      · by_cases q2 : t < ch.length
        · obtain ⟨y, hy⟩ := get_some ch t q2
          have q4 := hst y q1 hy
          clear hst
          obtain rfl := ha (by rintro rfl; simp at q2)
          gi_wp2_with fail
          refine wpIn_region_mid_lit 24 2 E68 { tmps := #[(.func (.yield l) #[] #[]), (.pointer (some ⟨bx, 0, none⟩)), (.pointer (some ⟨bc, 0, none⟩)), undef, (.int .i64 t), (.func (.yield l) #[] #[]), (.int .i64 t), (.bool true), (.bool true), (.int .i64 t), (.pointer (some ⟨bx, 2, none⟩)), (.int .i64 x.2.2), (.bool true), (.bool true), (.bool true), (.int .i64 t), (.slice (some ⟨b, o, none⟩) ch.length cap), (.int .i64 ch.length), (.bool true), (.bool true), (.bool true), (.slice (some ⟨b, o, none⟩) ch.length cap), (.int .i64 t), (.pointer (some ⟨b, o + t, none⟩)), (.int .i64 y), (.pointer (some ⟨bx, 0, none⟩)), (.int .i64 x.1), (.bool false), (.bool false), u29, u30], defers := [] } (J (t + 1)) hF rfl (by kernel_rfl) (by kernel_rfl) rfl rfl ?_ ?_ _ rfl rfl _ _ l fn tmps assign body _ rfl rfl (by go_simp; exact HY.out) HR.out ?_
          · intro s hs
            match s, hs with
            | 0, _ => rfl
            | 1, _ => rfl
            | 2, _ => rfl
            | 3, _ => rfl
            | 4, _ => rfl
            | 5, hs => exact absurd rfl (hs 0 (by decide))
            | 6, hs => exact absurd rfl (hs 1 (by decide))
            | 7, hs => exact absurd rfl (hs 2 (by decide))
            | 8, hs => exact absurd rfl (hs 3 (by decide))
            | 9, hs => exact absurd rfl (hs 4 (by decide))
            | 10, hs => exact absurd rfl (hs 5 (by decide))
            | 11, hs => exact absurd rfl (hs 6 (by decide))
            | 12, hs => exact absurd rfl (hs 7 (by decide))
            | 13, hs => exact absurd rfl (hs 8 (by decide))
            | 14, hs => exact absurd rfl (hs 9 (by decide))
            | 15, hs => exact absurd rfl (hs 10 (by decide))
            | 16, hs => exact absurd rfl (hs 11 (by decide))
            | 17, hs => exact absurd rfl (hs 12 (by decide))
            | 18, hs => exact absurd rfl (hs 13 (by decide))
            | 19, hs => exact absurd rfl (hs 14 (by decide))
            | 20, hs => exact absurd rfl (hs 15 (by decide))
            | 21, hs => exact absurd rfl (hs 16 (by decide))
            | 22, hs => exact absurd rfl (hs 17 (by decide))
            | 23, hs => exact absurd rfl (hs 18 (by decide))
            | 24, hs => exact absurd rfl (hs 19 (by decide))
            | 25, hs => exact absurd rfl (hs 20 (by decide))
            | 26, hs => exact absurd rfl (hs 21 (by decide))
            | 27, hs => exact absurd rfl (hs 22 (by decide))
            | 28, hs => exact absurd rfl (hs 23 (by decide))
            | 29, _ => rfl
            | 30, _ => rfl
            | s + 31, _ => rfl
          · clear HY HR
            repeat' (first | exact trivial | refine And.intro ?_ ?_)
            all_goals first
              | (rw [if_pos rfl]; exact trivial)
              | (rw [if_neg (by decide)]; refine ⟨_, _, rfl, rfl, ?_⟩; first | exact Or.inr ⟨rfl, rfl⟩ | skip)
            all_goals refine Or.inl ⟨rfl, fun w' hS => ?_⟩
            all_goals first
              | (have hS1 : J (t + 1) w' := hS; obtain ⟨j1, j2, j3, j4⟩ := HJ.out _ _ hS1; have j5 := j4 _ _ hy; have j6 : ((y : Int) == x.1) = false := beq_eq_false_iff_ne.2 q4; clear hS hS1 HJ j4; go_simp; done)
              | (clear HJ hS; go_simp; done)
              | (clear HJ hS; go_simp; go_outline)
          · intro w1 hS1
            gi_wp2
            go_end0
            exact ⟨⟨_, rfl⟩, by rw [← HT.out]; exact hS1⟩
        · clear hst
          gi_wp2_with fail
          refine wpIn_region_mid_lit 24 2 E68 { tmps := #[(.func (.yield l) #[] #[]), (.pointer (some ⟨bx, 0, none⟩)), (.pointer (some ⟨bc, 0, none⟩)), undef, (.int .i64 t), (.func (.yield l) #[] #[]), (.int .i64 t), (.bool true), (.bool true), (.int .i64 t), (.pointer (some ⟨bx, 2, none⟩)), (.int .i64 x.2.2), (.bool true), (.bool true), (.bool true), (.int .i64 t), (.slice a ch.length cap), (.int .i64 ch.length), (.bool false), (.bool false), (.bool false), undef, undef, undef, undef, undef, undef, undef, (.bool false), u29, u30], defers := [] } (J (t + 1)) hF rfl (by kernel_rfl) (by kernel_rfl) rfl rfl ?_ ?_ _ rfl rfl _ _ l fn tmps assign body _ rfl rfl (by go_simp; exact HY.out) HR.out ?_
          · intro s hs
            match s, hs with
            | 0, _ => rfl
            | 1, _ => rfl
            | 2, _ => rfl
            | 3, _ => rfl
            | 4, _ => rfl
            | 5, hs => exact absurd rfl (hs 0 (by decide))
            | 6, hs => exact absurd rfl (hs 1 (by decide))
            | 7, hs => exact absurd rfl (hs 2 (by decide))
            | 8, hs => exact absurd rfl (hs 3 (by decide))
            | 9, hs => exact absurd rfl (hs 4 (by decide))
            | 10, hs => exact absurd rfl (hs 5 (by decide))
            | 11, hs => exact absurd rfl (hs 6 (by decide))
            | 12, hs => exact absurd rfl (hs 7 (by decide))
            | 13, hs => exact absurd rfl (hs 8 (by decide))
            | 14, hs => exact absurd rfl (hs 9 (by decide))
            | 15, hs => exact absurd rfl (hs 10 (by decide))
            | 16, hs => exact absurd rfl (hs 11 (by decide))
            | 17, hs => exact absurd rfl (hs 12 (by decide))
            | 18, hs => exact absurd rfl (hs 13 (by decide))
            | 19, hs => exact absurd rfl (hs 14 (by decide))
            | 20, hs => exact absurd rfl (hs 15 (by decide))
            | 21, hs => exact absurd rfl (hs 16 (by decide))
            | 22, hs => exact absurd rfl (hs 17 (by decide))
            | 23, hs => exact absurd rfl (hs 18 (by decide))
            | 24, hs => exact absurd rfl (hs 19 (by decide))
            | 25, hs => exact absurd rfl (hs 20 (by decide))
            | 26, hs => exact absurd rfl (hs 21 (by decide))
            | 27, hs => exact absurd rfl (hs 22 (by decide))
            | 28, hs => exact absurd rfl (hs 23 (by decide))
            | 29, _ => rfl
            | 30, _ => rfl
            | s + 31, _ => rfl
          · clear HY HR
            repeat' (first | exact trivial | refine And.intro ?_ ?_)
            all_goals first
              | (rw [if_pos rfl]; exact trivial)
              | (rw [if_neg (by decide)]; refine ⟨_, _, rfl, rfl, ?_⟩; first | exact Or.inr ⟨rfl, rfl⟩ | skip)
            all_goals refine Or.inl ⟨rfl, fun w' hS => ?_⟩
            all_goals first
              | (have hS1 : J (t + 1) w' := hS; obtain ⟨j1, j2, j3, j4⟩ := HJ.out _ _ hS1; skip; clear hS hS1 HJ j4; go_simp; done)
              | (clear HJ hS; go_simp; done)
              | (clear HJ hS; go_simp; go_outline)
          · intro w1 hS1
            gi_wp2
            go_end0
            exact ⟨⟨_, rfl⟩, by rw [← HT.out]; exact hS1⟩
      · clear hst
        gi_wp2_with fail
        refine wpIn_region_mid_lit 24 2 E68 { tmps := #[(.func (.yield l) #[] #[]), (.pointer (some ⟨bx, 0, none⟩)), (.pointer (some ⟨bc, 0, none⟩)), undef, (.int .i64 t), (.func (.yield l) #[] #[]), (.int .i64 t), (.bool true), (.bool true), (.int .i64 t), (.pointer (some ⟨bx, 2, none⟩)), (.int .i64 x.2.2), (.bool false), (.bool false), (.bool false), undef, undef, undef, undef, (.bool false), (.bool false), undef, undef, undef, undef, undef, undef, undef, (.bool false), u29, u30], defers := [] } (J (t + 1)) hF rfl (by kernel_rfl) (by kernel_rfl) rfl rfl ?_ ?_ _ rfl rfl _ _ l fn tmps assign body _ rfl rfl (by go_simp; exact HY.out) HR.out ?_
        · intro s hs
          match s, hs with
          | 0, _ => rfl
          | 1, _ => rfl
          | 2, _ => rfl
          | 3, _ => rfl
          | 4, _ => rfl
          | 5, hs => exact absurd rfl (hs 0 (by decide))
          | 6, hs => exact absurd rfl (hs 1 (by decide))
          | 7, hs => exact absurd rfl (hs 2 (by decide))
          | 8, hs => exact absurd rfl (hs 3 (by decide))
          | 9, hs => exact absurd rfl (hs 4 (by decide))
          | 10, hs => exact absurd rfl (hs 5 (by decide))
          | 11, hs => exact absurd rfl (hs 6 (by decide))
          | 12, hs => exact absurd rfl (hs 7 (by decide))
          | 13, hs => exact absurd rfl (hs 8 (by decide))
          | 14, hs => exact absurd rfl (hs 9 (by decide))
          | 15, hs => exact absurd rfl (hs 10 (by decide))
          | 16, hs => exact absurd rfl (hs 11 (by decide))
          | 17, hs => exact absurd rfl (hs 12 (by decide))
          | 18, hs => exact absurd rfl (hs 13 (by decide))
          | 19, hs => exact absurd rfl (hs 14 (by decide))
          | 20, hs => exact absurd rfl (hs 15 (by decide))
          | 21, hs => exact absurd rfl (hs 16 (by decide))
          | 22, hs => exact absurd rfl (hs 17 (by decide))
          | 23, hs => exact absurd rfl (hs 18 (by decide))
          | 24, hs => exact absurd rfl (hs 19 (by decide))
          | 25, hs => exact absurd rfl (hs 20 (by decide))
          | 26, hs => exact absurd rfl (hs 21 (by decide))
          | 27, hs => exact absurd rfl (hs 22 (by decide))
          | 28, hs => exact absurd rfl (hs 23 (by decide))
          | 29, _ => rfl
          | 30, _ => rfl
          | s + 31, _ => rfl
        · clear HY HR
          repeat' (first | exact trivial | refine And.intro ?_ ?_)
          all_goals first
            | (rw [if_pos rfl]; exact trivial)
            | (rw [if_neg (by decide)]; refine ⟨_, _, rfl, rfl, ?_⟩; first | exact Or.inr ⟨rfl, rfl⟩ | skip)
          all_goals refine Or.inl ⟨rfl, fun w' hS => ?_⟩
          all_goals first
            | (have hS1 : J (t + 1) w' := hS; obtain ⟨j1, j2, j3, j4⟩ := HJ.out _ _ hS1; skip; clear hS hS1 HJ j4; go_simp; done)
            | (clear HJ hS; go_simp; done)
            | (clear HJ hS; go_simp; go_outline)
        · intro w1 hS1
          gi_wp2
          go_end0
          exact ⟨⟨_, rfl⟩, by rw [← HT.out]; exact hS1⟩
end Go.Proofs.YteilaajjpjhijaaDoor
