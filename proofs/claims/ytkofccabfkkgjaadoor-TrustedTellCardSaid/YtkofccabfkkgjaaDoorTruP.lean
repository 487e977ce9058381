/-
  What is proved: plain laws of what a policy says of names. No condition.
-/
import Derived.Test.YtkofccabfkkgjaaDoorLet
import Derived.Test.YtkofccabfkkgjaaDoorChnF
namespace Go.Proofs.YtkofccabfkkgjaaDoor
open Go.RowKit

def adL : List UInt8 := [39, 97, 108, 108, 111, 119, 45, 100, 117, 112, 108, 105, 99, 97, 116, 101, 115, 39]
def scL : List UInt8 := [39, 115, 99, 114, 105, 112, 116, 39]
def ttL : List UInt8 := [116, 114, 117, 115, 116, 101, 100, 45, 116, 121, 112, 101, 115]
def rtL : List UInt8 := [114, 101, 113, 117, 105, 114, 101, 45, 116, 114, 117, 115, 116, 101, 100, 45, 116, 121, 112, 101, 115, 45, 102, 111, 114]
/-- What a policy says of names: the names, whether all may, whether twice. -/
structure NamesL where
  list : List (List UInt8)
  any : Bool
  twice : Bool
def stepN (n : NamesL) (s : List UInt8) : NamesL :=
  if s = [42] then { n with any := true } else if lowL s = adL then { n with twice := true } else if nameB s then { n with list := n.list ++ [s] } else n
def valsN (vals : List (List UInt8)) : NamesL := vals.foldl stepN ⟨[], false, false⟩
def valsOf (o : Option Dir) : List (List UInt8) := match o with | none => [] | some d => d.vals
def hasN (ds : List Dir) : Bool := (findD ds ttL).isSome
def parseN (ds : List Dir) : NamesL := valsN (valsOf (findD ds ttL))
def createsN (ds : List Dir) (n : List UInt8) (there : List (List UInt8)) : Bool :=
  if hasN ds then (if there.contains n && !(parseN ds).twice then false else (parseN ds).any || (parseN ds).list.contains n) else true
def requiresN (ds : List Dir) : Bool := (valsOf (findD ds rtL)).any fun s => lowL s == scL
theorem name_star : nameB [42] = false := by decide
theorem low_star : lowL [42] ≠ adL := by decide
theorem low_head {s : List UInt8} (h : lowL s = adL) : nameB s = false := by
  cases s with
  | nil => rfl
  | cons c t =>
    have h1 : lowB c = 39 := by
      have := congrArg List.head? h
      simpa [lowL, adL] using this
    have key : ∀ n : Fin 256, lowB (UInt8.ofNat n) = 39 → letB (UInt8.ofNat n) = false := by decide +kernel
    have := key ⟨c.toNat, c.toNat_lt⟩
    simp only [UInt8.ofNat_toNat] at this
    unfold nameB
    rw [List.all_cons, this h1]
    rfl
/-- The reference's step: three tests. -/
theorem stepN_ref (n : NamesL) (s : List UInt8) : stepN n s = ⟨if nameB s then n.list ++ [s] else n.list, n.any || s == [42], n.twice || lowL s == adL⟩ := by
  unfold stepN
  by_cases h1 : s = [42]
  · subst h1
    rw [if_pos rfl, name_star]
    have : (lowL [42] == adL) = false := beq_eq_false_iff_ne.2 low_star
    rw [this]
    simp
  · have e1 : (s == [42]) = false := beq_eq_false_iff_ne.2 h1
    rw [if_neg h1, e1]
    by_cases h2 : lowL s = adL
    · have e2 : (lowL s == adL) = true := by simpa using h2
      rw [if_pos h2, e2, low_head h2]
      simp
    · have e2 : (lowL s == adL) = false := beq_eq_false_iff_ne.2 h2
      rw [if_neg h2, e2]
      cases h3 : nameB s <;> simp
theorem lowL_len (s : List UInt8) : (lowL s).length = s.length := by simp [lowL]
/-- Two texts of one length that are one in lower case, byte by byte. -/
theorem low_eq {s t : List UInt8} (hl : s.length = t.length) (h : ∀ i (h1 : i < s.length) (h2 : i < t.length), lowB s[i] = lowB t[i]) : lowL s = lowL t := by
  apply List.ext_getElem (by simp [lowL_len, hl])
  intro i h1 h2
  simp only [lowL_len] at h1 h2
  simp only [lowL, List.getElem_map]
  exact h i h1 h2
theorem low_ne {s t : List UInt8} {i : Nat} (h1 : i < s.length) (h2 : i < t.length) (h : ¬ lowB s[i] = lowB t[i]) : ¬ lowL s = lowL t := by
  intro e
  have := congrArg (·[i]?) e
  simp [lowL, h1, h2] at this
  exact h this
theorem valsN_take {vals : List (List UInt8)} {k : Nat} (h : k < vals.length) : valsN (vals.take (k + 1)) = stepN (valsN (vals.take k)) vals[k] := by
  unfold valsN
  rw [List.take_succ_eq_append_getElem h, List.foldl_append]
  rfl
theorem stepN_len (n : NamesL) (s : List UInt8) : (stepN n s).list.length ≤ n.list.length + 1 := by
  rw [stepN_ref]
  show (if nameB s then n.list ++ [s] else n.list).length ≤ _
  split <;> simp
theorem valsN_len : ∀ (vals : List (List UInt8)) (n : NamesL), (vals.foldl stepN n).list.length ≤ n.list.length + vals.length
  | [], n => by simp
  | v :: vs, n => by
    have := valsN_len vs (stepN n v)
    have h2 := stepN_len n v
    simp only [List.foldl_cons, List.length_cons]
    omega
theorem valsN_each (p : List UInt8 → Prop) : ∀ (vals : List (List UInt8)) (n : NamesL), (∀ s ∈ vals, p s) → (∀ s ∈ n.list, p s) → ∀ s ∈ (vals.foldl stepN n).list, p s
  | [], n, _, h => h
  | v :: vs, n, hv, h => by
    refine valsN_each p vs (stepN n v) (fun s hs => hv s (by simp [hs])) ?_
    rw [stepN_ref]
    intro s hs
    have hs : s ∈ (if nameB v then n.list ++ [v] else n.list) := hs
    split at hs
    · rcases List.mem_append.1 hs with hs | hs
      · exact h s hs
      · simp at hs
        subst hs
        exact hv _ (by simp)
    · exact h s hs
end Go.Proofs.YtkofccabfkkgjaaDoor
