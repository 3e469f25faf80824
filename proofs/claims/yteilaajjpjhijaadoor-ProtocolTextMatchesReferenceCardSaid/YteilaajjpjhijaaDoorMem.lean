/- How protocols, items and lists of integers lie in memory; what keeps these readings. -/
import Derived.Test.YteilaajjpjhijaaDoorRows
import Derived.Test.YteilaajjpjhijaaDoorSpec
import Derived.WalkKit
import Derived.WalkSpells
import Derived.WalkLawsBesides
import Derived.Lib.Hide
namespace Go.Proofs.YteilaajjpjhijaaDoor
open Go.RowKit PSpec

def I64 (n : Int) : Prop := -9223372036854775808 ≤ n ∧ n ≤ 9223372036854775807

/-- v reads as the list of integers xs -/
def Ints (w : World) (v : Value) (xs : List Int) : Prop :=
  ∃ a cap, v = .slice a xs.length cap ∧ xs.length ≤ cap ∧ cap ≤ maxLen ∧ (∀ x, x ∈ xs → I64 x) ∧
    (xs ≠ [] → ∃ b o, a = some ⟨b, o, none⟩ ∧ ∀ i x, xs[i]? = some x → w.cell? ⟨b, o + i, none⟩ = some (.int .i64 x))

/-- three cells that hold an item -/
def Cells3 (w : World) (b o : Nat) (x : It) : Prop :=
  w.cell? ⟨b, o, none⟩ = some (.int .i64 x.1) ∧ w.cell? ⟨b, o + 1, none⟩ = some (.int .i64 x.2.1) ∧ w.cell? ⟨b, o + 2, none⟩ = some (.int .i64 x.2.2)

def Items (w : World) (v : Value) (its : List It) : Prop :=
  ∃ a cap, v = .slice a its.length cap ∧ its.length ≤ cap ∧ cap ≤ maxLen ∧
    (its ≠ [] → ∃ b o, a = some ⟨b, o, none⟩ ∧ ∀ i x, its[i]? = some x → Cells3 w b (o + i * 3) x)

/-- the two cells of a rule -/
def Cells2 (w : World) (b o : Nat) (r : Rl) : Prop :=
  w.cell? ⟨b, o, none⟩ = some (.int .i64 r.1) ∧ ∃ iv, w.cell? ⟨b, o + 1, none⟩ = some iv ∧ Items w iv r.2

def Rules (w : World) (v : Value) (rs : List Rl) : Prop :=
  ∃ a cap, v = .slice a rs.length cap ∧ rs.length ≤ cap ∧ cap ≤ maxLen ∧
    (rs ≠ [] → ∃ b o, a = some ⟨b, o, none⟩ ∧ ∀ i r, rs[i]? = some r → Cells2 w b (o + i * 2) r)

/-- cells that were there lie as they lay -/
def Keeps (w w' : World) : Prop := ∀ a v, w.cell? a = some v → w'.cell? a = some v

theorem Keeps.refl (w : World) : Keeps w w := fun _ _ h => h
theorem Keeps.trans {a b c : World} (h : Keeps a b) (k : Keeps b c) : Keeps a c := fun x v e => k x v (h x v e)
theorem keeps_of_below {w w' : World} (h : Below w.heap.size w w') : Keeps w w' := fun a _ e =>
  (h.cell (World.block_lt_of_cell? w a e)).trans e

theorem Ints.keep {w w' : World} {v : Value} {xs : List Int} (h : Ints w v xs) (k : Keeps w w') : Ints w' v xs := by
  obtain ⟨a, cap, hv, h1, h2, h3, h4⟩ := h
  refine ⟨a, cap, hv, h1, h2, h3, fun hne => ?_⟩
  obtain ⟨b, o, e, hc⟩ := h4 hne
  exact ⟨b, o, e, fun i x hx => k _ _ (hc i x hx)⟩
theorem Cells3.keep {w w' : World} {b o : Nat} {x : It} (h : Cells3 w b o x) (k : Keeps w w') : Cells3 w' b o x :=
  ⟨k _ _ h.1, k _ _ h.2.1, k _ _ h.2.2⟩
theorem Items.keep {w w' : World} {v : Value} {xs : List It} (h : Items w v xs) (k : Keeps w w') : Items w' v xs := by
  obtain ⟨a, cap, hv, h1, h2, h4⟩ := h
  refine ⟨a, cap, hv, h1, h2, fun hne => ?_⟩
  obtain ⟨b, o, e, hc⟩ := h4 hne
  exact ⟨b, o, e, fun i x hx => (hc i x hx).keep k⟩
theorem Cells2.keep {w w' : World} {b o : Nat} {r : Rl} (h : Cells2 w b o r) (k : Keeps w w') : Cells2 w' b o r := by
  obtain ⟨h1, iv, h2, h3⟩ := h
  exact ⟨k _ _ h1, iv, k _ _ h2, h3.keep k⟩
theorem Rules.keep {w w' : World} {v : Value} {xs : List Rl} (h : Rules w v xs) (k : Keeps w w') : Rules w' v xs := by
  obtain ⟨a, cap, hv, h1, h2, h4⟩ := h
  refine ⟨a, cap, hv, h1, h2, fun hne => ?_⟩
  obtain ⟨b, o, e, hc⟩ := h4 hne
  exact ⟨b, o, e, fun i x hx => (hc i x hx).keep k⟩

theorem Ints.below {w w' : World} {v : Value} {xs : List Int} (h : Ints w v xs) (k : Below w.heap.size w w') : Ints w' v xs := h.keep (keeps_of_below k)
theorem Items.below {w w' : World} {v : Value} {xs : List It} (h : Items w v xs) (k : Below w.heap.size w w') : Items w' v xs := h.keep (keeps_of_below k)
theorem Rules.below {w w' : World} {v : Value} {xs : List Rl} (h : Rules w v xs) (k : Below w.heap.size w w') : Rules w' v xs := h.keep (keeps_of_below k)

theorem ret_bool {a b : Bool} (h : a = b) : Ending.returned (.bool a) = .returned (.bool b) := by rw [h]
theorem ret_int {k : IntKind} {a b : Int} (h : a = b) : Ending.returned (.int k a) = .returned (.int k b) := by rw [h]

/-- the value of an item -/
def itV (x : It) : Value := .agg #[.int .i64 x.1, .int .i64 x.2.1, .int .i64 x.2.2]

end Go.Proofs.YteilaajjpjhijaaDoor
