/-
  What is proved: whether two texts are the same but for their case, the reference's lower case: contracts. Condition: texts that fit.
-/
import Derived.Test.YtfaomejdoljfnaaDoorAsc
import Derived.Test.YtfaomejdoljfnaaDoorQui
namespace Go.Proofs.YtfaomejdoljfnaaDoor
open Go.RowKit

theorem lowL_len (s : List UInt8) : (lowL s).length = s.length := by simp [lowL]
/-- Two texts of one length that are one in lower case, byte by byte. -/
theorem low_eq {s t : List UInt8} (hl : s.length = t.length) (h : ∀ i (h1 : i < s.length) (h2 : i < t.length), lowB s[i] = lowB t[i]) : lowL s = lowL t := by
  apply List.ext_getElem (by simp [lowL_len, hl])
  intro i h1 h2
  simp only [lowL_len] at h1 h2
  simp only [lowL, List.getElem_map]
  exact h i h1 h2
theorem low_ne {s t : List UInt8} {i : Nat} (h1 : i < s.length) (h2 : i < t.length) (h : ¬ lowB s[i] = lowB t[i]) : ¬ lowL s = lowL t := by
  intro e
  have := congrArg (·[i]?) e
  simp [lowL, h1, h2] at this
  exact h this
theorem u8_beq {c x : UInt8} : ((c.toNat : Int) == (x.toNat : Int)) = (c == x) := by
  rw [Bool.eq_iff_iff]
  simp only [beq_iff_eq]
  constructor
  · intro h
    exact UInt8.toNat_inj.1 (by omega)
  · intro h
    rw [h]
theorem low_any2 (c : UInt8) : ∀ W : World, Calls Tryd.prog 21 #[.int .u8 c.toNat] W fun e w' => e = .returned (.int .u8 (lowB c).toNat) ∧ W = w' := fun W => lower_any c W
end Go.Proofs.YtfaomejdoljfnaaDoor
