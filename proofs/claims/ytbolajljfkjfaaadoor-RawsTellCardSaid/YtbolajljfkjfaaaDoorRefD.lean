/-
  What is proved: the name that the program finds at a text's front is the longest one, whichever order its maps hand their names out in. A contract. No condition.
-/
import Derived.Test.YtbolajljfkjfaaaDoorRefM
import Derived.Test.YtbolajljfkjfaaaDoorPfx
namespace Go.Proofs.YtbolajljfkjfaaaDoor
open Go.RowKit
open Go.Maps (Keyed)

def looseD : DataW Unit := mapData (.map []) (pairs looseN)
def strictD : DataW Unit := mapData (.map []) (pairs strictN)
def entriesOf : DataW Unit → List (Lit × DataW Unit)
  | .map es => es
  | _ => []
def okEntry (l : List Nm) (p : Lit × DataW Unit) : Bool :=
  match p.1, p.2 with
  | .string k, .lit (.string c) => l.any fun x => x.name == k && x.text == c
  | _, _ => false
theorem loose_entries : (entriesOf looseD).all (okEntry looseN) = true := by decide +kernel
theorem strict_entries : (entriesOf strictD).all (okEntry strictN) = true := by decide +kernel
theorem loose_has : looseN.all (fun x => Maps.has looseD (.string x.name)) = true := by decide +kernel
theorem strict_has : strictN.all (fun x => Maps.has strictD (.string x.name)) = true := by decide +kernel
theorem all_kinds : looseN.all (fun x => x.loose) = true ∧ strictN.all (fun x => !x.loose) = true := by decide +kernel
theorem mem_loose {x : Nm} (h : x ∈ looseN) : x ∈ allN ∧ x.loose = true := ⟨List.mem_append.2 (.inl h), List.all_eq_true.1 all_kinds.1 x h⟩
theorem mem_strict {x : Nm} (h : x ∈ strictN) : x ∈ allN ∧ x.loose = false := ⟨List.mem_append.2 (.inr h), by simpa using List.all_eq_true.1 all_kinds.2 x h⟩
theorem of_loose {x : Nm} (h : x ∈ allN) (hl : x.loose = true) : x ∈ looseN := by
  rcases List.mem_append.1 h with h | h
  · exact h
  · rw [(mem_strict h).2] at hl; cases hl
theorem of_strict {x : Nm} (h : x ∈ allN) (hl : x.loose = false) : x ∈ strictN := by
  rcases List.mem_append.1 h with h | h
  · rw [(mem_loose h).2] at hl; cases hl
  · exact h
theorem entry_some {D : DataW Unit} {l : List Nm} (hall : (entriesOf D).all (okEntry l) = true) {k c : List UInt8} (h : ∀ zd, D.atKey (.string k) zd = .lit (.string c)) : ∃ x ∈ l, x.name = k ∧ x.text = c := by
  cases D with
  | map es =>
    unfold DataW.atKey at h
    simp only at h
    cases hf : es.find? (fun p => p.1.sameKey (.string k)) with
    | none => rw [hf] at h; exact absurd (h .nil) (by simp)
    | some p =>
      rw [hf] at h
      have hp := List.all_eq_true.1 hall p (List.mem_of_find?_eq_some hf)
      have hk : p.1 = .string k := WideAt.sameKey_eq (by simpa using List.find?_some hf)
      have h2 : p.2 = .lit (.string c) := h .nil
      unfold okEntry at hp
      rw [hk, h2] at hp
      simp only [List.any_eq_true, Bool.and_eq_true, beq_iff_eq] at hp
      obtain ⟨x, hx, e1, e2⟩ := hp
      exact ⟨x, hx, e1, e2⟩
  | _ => exact absurd (h .nil) (by first | (unfold DataW.atKey; simp) | skip)
theorem keyOf_string_inv {P : Program} {k : TypeId} (hk : P.underlying k = some .string) {key : Value} {kl : Lit} (h : keyOf P k key = some kl) : ∃ s : ByteArray, key = .string s ∧ kl = .string s.data.toList := by
  cases key <;> simp [keyOf, hk, mapKey] at h
  exact ⟨_, rfl, h.2.symm⟩
/-- The step of a range over a map from strings to strings. -/
theorem wpList_next_ss {P : Program} (w : World) {ops : Array Oper} {rest : List Oper} {o : Oper} {a : Act} {Q : Exit → Act → World → Prop}
    (hg : o.guard = none) (it : Operand) (hop : o.op = Op.next it false) (k : TypeId) (hk : P.underlying k = some .string)
    (b r n : Nat) (D : DataW Unit) (left : Lit → Bool) (cnt : Nat) (hit : a.eval it = .pointer (some ⟨r, 0, none⟩)) (h : w.ranges P k (plainElem P k) b r n D left cnt)
    (hDone : cnt = 0 → (∀ kl, left kl = false) → wpList P ops Q rest (a.put o.dst (.tuple #[.bool false])) w)
    (hMore : ∀ (x c : List UInt8) (w' : World) (cnt' : Nat), x.length ≤ maxLen → c.length ≤ maxLen → left (.string x) = true → (∀ zd, D.atKey (.string x) zd = .lit (.string c)) → w'.ranges P k (plainElem P k) b r n D (fun z => left z && !z.sameKey (.string x)) cnt' → cnt' < cnt →
      w.grownBy w' (some r) → w'.heap.size = w.heap.size → (Instr.entry (.pointer (some ⟨r, 0, none⟩))).run P w' = .ok (.tuple #[.string ⟨⟨x⟩⟩, .string ⟨⟨c⟩⟩]) w' → wpList P ops Q rest (a.put o.dst (.tuple #[.bool true, .string ⟨⟨x⟩⟩, .string ⟨⟨c⟩⟩])) w') :
    wpList P ops Q (o :: rest) a w :=
  wpList_next_ranges w hg it hop k (Maps.string_keyed hk) (plainElem P k) Value.string Value.string (fun key kl hkey => by obtain ⟨x, rfl, _⟩ := keyOf_string_inv hk hkey; exact ⟨x, rfl⟩) (fun v y hv => by obtain ⟨c, rfl, _⟩ := plainElem_string_inv hk hv; exact ⟨c, rfl⟩)
    b r n D left cnt hit h hDone (fun x c kl y w' cnt' hkey hlk hv hat hrg hlt hgr hsz hen => by
      obtain ⟨x', ex, rfl⟩ := keyOf_string_inv hk hkey
      cases ex
      obtain ⟨c', ec, rfl, hwc⟩ := plainElem_string_inv hk hv
      cases ec
      have hx : x.size ≤ maxLen := by
        simp [keyOf, hk, mapKey] at hkey
        exact hkey
      exact hMore x.data.toList c.data.toList w' cnt' hx hwc hlk hat hrg hlt hgr hsz hen)
end Go.Proofs.YtbolajljfkjfaaaDoor
