/- A frame's text, plain: pieces of a text, its first line, its rows. No program in sight. -/
import Derived.Test.YtckadkobgmnoeaaDoorFpD
import Derived.Lib.SplitLaws
import Derived.Lib.CutLaws
namespace Go.Proofs.YtckadkobgmnoeaaDoor

/-- strings.Split. -/
def spl (sep s : ByteArray) : List ByteArray := Lib.splitB sep 0 (Lib.countB s sep) s
theorem spl_len {sep s : ByteArray} (h1 : 1 ≤ sep.size) : (spl sep s).length = Lib.countB s sep + 1 := Lib.splitB_all sep h1 0 _ s rfl
theorem spl_miss {sep s : ByteArray} (h : Lib.indexB s sep = -1) : spl sep s = [s] := Lib.splitB_miss _ _ _ _ h
theorem spl_hit {sep s : ByteArray} {i : Nat} (h1 : 1 ≤ sep.size) (h : Lib.indexB s sep = i) : spl sep s = s.extract 0 i :: spl sep (s.extract (i + sep.size) s.size) := by
  unfold spl
  rw [Lib.countB_hit s sep i h1 h, Nat.add_comm, Lib.splitB_hit _ _ _ _ _ h, Nat.add_zero]
theorem extract_le (s : ByteArray) (a b : Nat) : (s.extract a b).size ≤ s.size := by
  rw [ByteArray.size_extract]; omega
theorem spl_size {sep : ByteArray} (h1 : 1 ≤ sep.size) : ∀ (n : Nat) (s p : ByteArray), s.size ≤ n → p ∈ spl sep s → p.size ≤ s.size
  | 0, s, p, hn, hp => by
    rcases Lib.indexB_cases s sep with h | ⟨i, h, hi⟩
    · rw [spl_miss h] at hp; rw [List.mem_singleton.1 hp]; exact Nat.le_refl _
    · omega
  | n + 1, s, p, hn, hp => by
    rcases Lib.indexB_cases s sep with h | ⟨i, h, hi⟩
    · rw [spl_miss h] at hp; rw [List.mem_singleton.1 hp]; exact Nat.le_refl _
    · rw [spl_hit h1 h] at hp
      rcases List.mem_cons.1 hp with rfl | hp
      · exact extract_le _ _ _
      · have hsz : (s.extract (i + sep.size) s.size).size ≤ n := by rw [ByteArray.size_extract]; omega
        exact Nat.le_trans (spl_size h1 n _ p hsz hp) (extract_le _ _ _)
theorem spl_mem_size {sep s p : ByteArray} (h1 : 1 ≤ sep.size) (hp : p ∈ spl sep s) : p.size ≤ s.size := spl_size h1 _ s p (Nat.le_refl _) hp
theorem spl_pos {sep s : ByteArray} (h1 : 1 ≤ sep.size) : 1 ≤ (spl sep s).length := by rw [spl_len h1]; omega

def nlB : ByteArray := ⟨#[10]⟩
def spB : ByteArray := ⟨#[32]⟩
def barB : ByteArray := ⟨#[32, 124, 32]⟩
def frameB : ByteArray := ⟨#[102, 114, 97, 109, 101]⟩

/-- The first line's four numbers. -/
def headL : List ByteArray → Option (Int × Int × Int × Int)
  | [f, a, b, c, d] =>
    if f = frameB ∧ (intR a.data.toList).2 = true ∧ (intR b.data.toList).2 = true ∧ (intR c.data.toList).2 = true ∧ (intR d.data.toList).2 = true
    then some ((intR a.data.toList).1, (intR b.data.toList).1, (intR c.data.toList).1, (intR d.data.toList).1) else none
  | _ => none
/-- The words of a row: bits and error each; none where one is no single at all. -/
def wordsV : List ByteArray → Option (List (Nat × Int))
  | [] => some []
  | w :: l => if (hexR w.data.toList).2 = 9 then none else (wordsV l).map (hexR w.data.toList :: ·)
def rowV : List ByteArray → Option (List (Nat × Int))
  | [] => some []
  | p :: l => if (spl spB p).length = 4 then (match wordsV (spl spB p) with | none => none | some vs => (rowV l).map (vs ++ ·)) else none
/-- The last error of a row. -/
def worst (b : Int) (vs : List (Nat × Int)) : Int := vs.foldl (fun b v => if v.2 = 0 then b else v.2) b
def rowR (l : ByteArray) (many : Int) : List Nat × Int :=
  if ((spl barB l).length : Int) = many then (match rowV (spl barB l) with | none => ([], 9) | some vs => (vs.map (·.1), worst 0 vs)) else ([], 9)
end Go.Proofs.YtckadkobgmnoeaaDoor
