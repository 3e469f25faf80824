/- The chapter's examples, plainly. -/
import Derived.Test.YteilaajjpjhijaaDoorTx
import Derived.Test.YteilaajjpjhijaaDoorPl
namespace Go.Proofs.YteilaajjpjhijaaDoor
open PSpec

def sP : Pr := [(0, [(1, 1, 2), (2, 1, 3), (1, 0, 1)]), (0, [(3, 2, 2)])]
def allL : List (List Int) := [[1, 2], [1, 1, 2, 2, 1], [], [1], [2, 1], [3]]
def wantL : List (List Int) := [[], [], [1, 2], [2], [1], [3]]
def sLine1 : Bs := [48, 58, 32, 49, 42, 49, 45, 50, 32, 50, 42, 49, 45, 51, 32, 49, 42, 48, 45, 49, 10]
def sLine2 : Bs := [48, 58, 32, 51, 42, 50, 45, 50, 10]
def sText : Bs := [48, 58, 32, 49, 42, 49, 45, 50, 32, 50, 42, 49, 45, 51, 32, 49, 42, 48, 45, 49, 10, 48, 58, 32, 51, 42, 50, 45, 50, 10]
def sCut : Bs := [48, 58, 32, 49, 42, 49, 45, 50, 32, 50, 42, 49, 45, 51, 32, 49, 42, 48, 45, 49, 10, 48, 58, 32, 51, 42, 50, 45, 50]
theorem sP_valid : validB sP = true := by decide +kernel
theorem s_match : ∀ k, k < 6 → matchF sP 0 (allL.getD k []) = (wantL.getD k [], 0) := by decide +kernel
theorem s_m1 : matchF sP 0 [2, 2, 2, 2] = ([], 130) := by decide +kernel
theorem s_m2 : matchF sP 0 [1, 3] = ([], 130) := by decide +kernel
theorem s_m3 : matchF sP 5 [7, 0] = ([], 0) := by decide +kernel
theorem s_m4 : matchF sP 12 [] = ([], 2) := by decide +kernel
theorem dgs_one (k : Nat) (h : k < 10) : dgs (k : Int) = [UInt8.ofNat (48 + k)] := by
  unfold dgs; rw [Int.toNat_natCast, Lib.decDigits_one h]
theorem d0 : dgs 0 = [48] := dgs_one 0 (by omega)
theorem d1 : dgs 1 = [49] := dgs_one 1 (by omega)
theorem d2 : dgs 2 = [50] := dgs_one 2 (by omega)
theorem d3 : dgs 3 = [51] := dgs_one 3 (by omega)
theorem s_line1 : lineS (0, [(1, 1, 2), (2, 1, 3), (1, 0, 1)]) = sLine1 := by
  simp [lineS, itemS, d0, d1, d2, d3, sLine1]
theorem s_line2 : lineS (0, [(3, 2, 2)]) = sLine2 := by
  simp [lineS, itemS, d0, d2, d3, sLine2]
theorem s_text : printS sP = sText := by
  show lineS _ ++ (lineS _ ++ []) = _
  rw [s_line1, s_line2]; rfl
theorem s_print : printF sP = (sText, 0) := by
  unfold printF; rw [sP_valid, s_text]; rfl
theorem s_parse : parseF sText = (sP, 0, 0) := by
  rw [← s_text]; exact parse_print sP sP_valid
theorem s_bad : ruleP (sLine2.dropLast) = none := by
  cases h : ruleP (sLine2.dropLast) with
  | none => rfl
  | some q =>
    obtain ⟨x, r⟩ := q
    have := (ruleP_some h).2
    have h10 : (10 : UInt8) ∈ sLine2.dropLast := by rw [this]; simp [lineS]
    simp [sLine2] at h10
theorem s_cut : parseF sCut = ([], 2, 130) := by
  have e : sCut = lineS (0, [(1, 1, 2), (2, 1, 3), (1, 0, 1)]) ++ sLine2.dropLast := by rw [s_line1]; rfl
  have h1 := ruleP_line (0, [(1, 1, 2), (2, 1, 3), (1, 0, 1)]) sLine2.dropLast (by decide)
  rw [← e] at h1
  have hc : sCut.length = 29 := rfl
  unfold parseF
  rw [hc]
  unfold parseGo
  rw [if_neg (by simp [sCut]), if_neg (by simp), h1]
  simp only
  unfold parseGo
  rw [if_neg (by simp [sLine2]), if_neg (by simp), s_bad]
  rfl
end Go.Proofs.YteilaajjpjhijaaDoor
