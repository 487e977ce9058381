/-
  What is proved: plain laws of texts cut at a byte, at spaces, and in lower case. No condition.
-/
import Derived.Test.YtbolajljfkjfaaaDoorBase
import Derived.Lib.SplitLaws
namespace Go.Proofs.YtbolajljfkjfaaaDoor
open Go.RowKit

/-! ### cut at a byte -/
def splitG (c : UInt8) : List UInt8 → List UInt8 → List (List UInt8)
  | piece, [] => [piece]
  | piece, d :: t => if d = c then piece :: splitG c [] t else splitG c (piece ++ [d]) t
def splitL (c : UInt8) (l : List UInt8) : List (List UInt8) := splitG c [] l
theorem splitG_miss {c : UInt8} : ∀ (l piece : List UInt8), c ∉ l → splitG c piece l = [piece ++ l]
  | [], piece, _ => by simp [splitG]
  | d :: t, piece, h => by
    have h1 : d ≠ c := fun e => h (by simp [e])
    unfold splitG
    rw [if_neg h1, splitG_miss t _ (fun hm => h (by simp [hm]))]
    simp
theorem splitG_hit {c : UInt8} : ∀ (a b piece : List UInt8), c ∉ a → splitG c piece (a ++ c :: b) = (piece ++ a) :: splitG c [] b
  | [], b, piece, _ => by simp [splitG]
  | d :: t, b, piece, h => by
    have h1 : d ≠ c := fun e => h (by simp [e])
    show (if d = c then _ else splitG c (piece ++ [d]) (t ++ c :: b)) = _
    rw [if_neg h1, splitG_hit t b _ (fun hm => h (by simp [hm]))]
    simp
theorem index_one_miss {c : UInt8} : ∀ (l : List UInt8), c ∉ l → Lib.index l [c] = -1
  | [], _ => rfl
  | d :: t, h => by
    have h1 : ¬ (([c] : List UInt8).isPrefixOf (d :: t) = true) := by
      simp only [List.isPrefixOf, Bool.and_true, beq_iff_eq]
      exact fun e => h (by simp [e])
    unfold Lib.index
    rw [if_neg h1, index_one_miss t (fun hm => h (by simp [hm]))]
    rfl
theorem index_one_hit {c : UInt8} : ∀ (a b : List UInt8), c ∉ a → Lib.index (a ++ c :: b) [c] = (a.length : Int)
  | [], b, _ => by
    show Lib.index (c :: b) [c] = 0
    unfold Lib.index
    rw [if_pos (by simp [List.isPrefixOf])]
  | d :: t, b, h => by
    have h1 : ¬ (([c] : List UInt8).isPrefixOf (d :: (t ++ c :: b)) = true) := by
      simp only [List.isPrefixOf, Bool.and_true, beq_iff_eq]
      exact fun e => h (by simp [e])
    have ih := index_one_hit (c := c) t b (fun hm => h (List.mem_cons_of_mem _ hm))
    show Lib.index (d :: (t ++ c :: b)) [c] = _
    unfold Lib.index
    rw [if_neg h1, ih]
    have h2 : (((t.length : Int) == -1) = true) = False := by simp
    rw [if_neg (by rw [h2]; exact id)]
    simp
theorem first_of {c : UInt8} : ∀ {l : List UInt8}, c ∈ l → ∃ a b, l = a ++ c :: b ∧ c ∉ a
  | [], h => by simp at h
  | d :: t, h => by
    by_cases e : d = c
    · subst e; exact ⟨[], t, rfl, by simp⟩
    · have ht : c ∈ t := by
        rcases List.mem_cons.1 h with k | k
        · exact absurd k.symm e
        · exact k
      obtain ⟨a, b, rfl, hn⟩ := first_of (c := c) (l := t) ht
      exact ⟨d :: a, b, rfl, fun k => by
        rcases List.mem_cons.1 k with k | k
        · exact e k.symm
        · exact hn k⟩
/-- The library's cutting, told piece by piece. -/
theorem splitK_all (c : UInt8) : ∀ (n : Nat) (l : List UInt8), l.length ≤ n → Lib.splitK [c] 0 (Lib.count l [c]) l = splitL c l
  | 0, l, h => by
    have : l = [] := by cases l with | nil => rfl | cons a t => simp at h
    subst this
    rw [Lib.count_miss (index_one_miss [] (by simp))]
    rfl
  | n + 1, l, h => by
    by_cases hc : c ∈ l
    · obtain ⟨a, b, rfl, hn⟩ := first_of hc
      have hi := index_one_hit a b hn
      have hd : (a ++ c :: b).drop (a.length + ([c] : List UInt8).length) = b := by simp
      rw [Lib.count_hit (by simp) hi, hd, Nat.add_comm 1]
      have e1 : Lib.splitK [c] 0 (Lib.count b [c] + 1) (a ++ c :: b) = (if Lib.index (a ++ c :: b) [c] == -1 then [a ++ c :: b] else (a ++ c :: b).take ((Lib.index (a ++ c :: b) [c]).toNat + 0) :: Lib.splitK [c] 0 (Lib.count b [c]) ((a ++ c :: b).drop ((Lib.index (a ++ c :: b) [c]).toNat + ([c] : List UInt8).length))) := rfl
      have h2 : ((((a.length : Nat) : Int) == -1) = true) = False := by simp
      rw [e1, hi, if_neg (by rw [h2]; exact id), Int.toNat_natCast, hd, splitK_all c n b (by simp at h; omega)]
      unfold splitL
      rw [splitG_hit a b [] hn]
      simp
    · rw [Lib.count_miss (index_one_miss l hc)]
      unfold splitL
      rw [splitG_miss l [] hc]
      rfl
theorem splitB_map (c : UInt8) (l : List UInt8) : (Lib.splitB ⟨⟨[c]⟩⟩ 0 (Lib.countB ⟨⟨l⟩⟩ ⟨⟨[c]⟩⟩) ⟨⟨l⟩⟩).map (·.data.toList) = splitL c l := by
  rw [Lib.splitB_data]
  exact splitK_all c _ l (Nat.le_refl _)
theorem splitG_snoc (c : UInt8) : ∀ (l piece : List UInt8) (d : UInt8), ∃ ps q, splitG c piece l = ps ++ [q] ∧ splitG c piece (l ++ [d]) = if d = c then ps ++ [q, []] else ps ++ [q ++ [d]]
  | [], piece, d => ⟨[], piece, rfl, by
    show (if d = c then piece :: splitG c [] [] else splitG c (piece ++ [d]) []) = _
    split <;> simp [splitG]⟩
  | x :: l, piece, d => by
    by_cases hx : x = c
    · obtain ⟨ps, q, h1, h2⟩ := splitG_snoc c l [] d
      refine ⟨piece :: ps, q, ?_, ?_⟩
      · show (if x = c then piece :: splitG c [] l else _) = _
        rw [if_pos hx, h1]; rfl
      · show (if x = c then piece :: splitG c [] (l ++ [d]) else _) = _
        rw [if_pos hx, h2]
        split <;> rfl
    · obtain ⟨ps, q, h1, h2⟩ := splitG_snoc c l (piece ++ [x]) d
      refine ⟨ps, q, ?_, ?_⟩
      · show (if x = c then _ else splitG c (piece ++ [x]) l) = _
        rw [if_neg hx, h1]
      · show (if x = c then _ else splitG c (piece ++ [x]) (l ++ [d])) = _
        rw [if_neg hx, h2]

/-! ### cut at spaces -/
def spB (c : UInt8) : Bool := c == 9 || c == 10 || c == 12 || c == 13 || c == 32
def pieceL (p : List UInt8) : List (List UInt8) := if p.isEmpty then [] else [p]
def fieldsG : List UInt8 → List UInt8 → List (List UInt8)
  | piece, [] => pieceL piece
  | piece, c :: t => if spB c then pieceL piece ++ fieldsG [] t else fieldsG (piece ++ [c]) t
def fieldsL (l : List UInt8) : List (List UInt8) := fieldsG [] l
theorem fields_total : ∀ (l piece : List UInt8), ((fieldsG piece l).map List.length).sum ≤ piece.length + l.length
  | [], piece => by
    unfold fieldsG pieceL
    split <;> simp
  | c :: t, piece => by
    unfold fieldsG
    split
    · have := fields_total t []
      have h2 : ((pieceL piece).map List.length).sum ≤ piece.length := by unfold pieceL; split <;> simp
      simp only [List.map_append, List.sum_append, List.length_cons, List.length_nil] at this ⊢
      omega
    · have := fields_total t (piece ++ [c])
      simp only [List.length_append, List.length_cons, List.length_nil] at this ⊢
      omega
theorem fields_ne : ∀ (l piece : List UInt8), ∀ x ∈ fieldsG piece l, x ≠ []
  | [], piece, x, h => by
    unfold fieldsG pieceL at h
    split at h
    · cases h
    · rename_i hp
      simp only [List.mem_singleton] at h
      subst h
      simpa using hp
  | c :: t, piece, x, h => by
    unfold fieldsG at h
    split at h
    · rcases List.mem_append.1 h with h | h
      · unfold pieceL at h
        split at h
        · cases h
        · rename_i hp
          simp only [List.mem_singleton] at h
          subst h
          simpa using hp
      · exact fields_ne t [] x h
    · exact fields_ne t _ x h

/-! ### lower case -/
def lowB (c : UInt8) : UInt8 := if 65 ≤ c && c ≤ 90 then c + 32 else c
def lowL (l : List UInt8) : List UInt8 := l.map lowB

/-! ### the directives of a policy -/
/-- A directive: its name, its values. -/
structure Dir where
  name : List UInt8
  vals : List (List UInt8)
def hasD (l : List Dir) (n : List UInt8) : Bool := l.any fun d => d.name == n
/-- What one part adds. -/
def addD (out : List Dir) (part : List UInt8) : List Dir :=
  match fieldsL part with
  | [] => out
  | w :: ws => if hasD out (lowL w) then out else out ++ [⟨lowL w, ws⟩]
def oneL (s : List UInt8) : List Dir := (splitL 59 s).foldl addD []
/-- Where a directive of a name is. -/
def findD (l : List Dir) (n : List UInt8) : Option Dir := l.find? fun d => d.name == n
end Go.Proofs.YtbolajljfkjfaaaDoor
