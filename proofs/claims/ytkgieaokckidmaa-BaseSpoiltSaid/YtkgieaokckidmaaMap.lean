/-
  What is proved: laws for a map from strings to strings that a call makes out of a literal: its inserts, one behind the other. Over any program. No condition of ours.
-/
import Derived.Test.YtkgieaokckidmaaBase
import Derived.Maps.Own
import Derived.Maps.RangeWalk
import Derived.Maps.StringElems
namespace Go.Proofs.Ytkgieaokckidmaa
open Go.RowKit
open Go.Maps (Keyed)

theorem wpList_insert_own {H : Type} {P : Program} (w : World) {ops : Array Oper} {rest : List Oper} {o : Oper} {a : Act} {Q : Exit → Act → World → Prop}
    (hg : o.guard = none) (m x v : Operand) (t : TypeId) (hop : o.op = Op.insert t m x v)
    (k e : TypeId) (K : Keyed P k) (ht : P.underlying t = some (.map k e)) (R : Value → Option (DataW H × List MemPlace)) (b n : Nat) (D : DataW H)
    (hm : a.eval m = .map (some b)) (hown : w.ownsMap P k R b n D) (hn : n < maxLen) (key val : Value) (kl : Lit) (hx : a.eval x = key) (hv : a.eval v = val) (hkey : keyOf P k key = some kl)
    (d : DataW H) (ps : List MemPlace) (hval : R val = some (d, ps))
    (hK : ∀ w', w'.ownsMap P k R b (n + 1) (D.put kl d) → w.grownBy w' (some b) → wpList P ops Q rest (a.put o.dst undef) w') :
    wpList P ops Q (o :: rest) a w := by
  refine wpList_plain hg fun K' hK' => ?_
  obtain ⟨w', hrun, r1, r2⟩ := hown.update K ht hn hkey hval
  unfold Oper.wp
  simp [execOp, hop, hm, hx, hv, hrun, Result.andThen]
  exact hK' _ _ (hK w' r1 r2)

/-- These operations insert these entries into the map in that slot. -/
def InsertsOk (T : TypeId) (m : Tmp) : List Oper → List (List UInt8 × List UInt8) → Prop
  | [], [] => True
  | o :: os, e :: es => (o.guard = none ∧ o.dst = none ∧ o.op = .insert T (.tmp m) (.const (.string ⟨⟨e.1⟩⟩)) (.const (.string ⟨⟨e.2⟩⟩))) ∧ InsertsOk T m os es
  | _, _ => False
/-- What the map reads as behind such inserts. -/
def mapData {H : Type} (D : DataW H) (es : List (List UInt8 × List UInt8)) : DataW H := es.foldl (fun D e => D.put (.string e.1) (.lit (.string e.2))) D
theorem grown_drew {w w' : World} {row : Option Nat} (h : w.grownBy w' row) : w.drew.grownBy w' row := ⟨h.os, h.tape, h.output, h.size, h.block⟩
theorem grown_trans' {a b c : World} {row : Option Nat} (h : a.grownBy b row) (k : b.grownBy c row) : a.grownBy c row :=
  ⟨k.os.trans h.os, k.tape.trans h.tape, k.output.trans h.output, Nat.le_trans h.size k.size, fun i hi hne => (k.block i (Nat.lt_of_lt_of_le hi h.size) hne).trans (h.block i hi hne)⟩
theorem wpList_inserts {H : Type} {P : Program} {ops : Array Oper} {rest : List Oper} {Q : Exit → Act → World → Prop} {T ks : TypeId} {m : Tmp} {b : Nat} (hks : P.underlying ks = some .string) (ht : P.underlying T = some (.map ks ks)) :
    ∀ (os : List Oper) (es : List (List UInt8 × List UInt8)) (a : Act) (w : World) (n : Nat) (D : DataW H), InsertsOk T m os es → a.eval (.tmp m) = .map (some b) → w.ownsMap P ks (plainElem P ks) b n D → n + es.length < 100000 → (∀ e ∈ es, e.1.length ≤ maxLen ∧ e.2.length ≤ maxLen) →
      (∀ w', w'.ownsMap P ks (plainElem P ks) b (n + es.length) (mapData D es) → w.grownBy w' (some b) → wpList P ops Q rest a w') → wpList P ops Q (os ++ rest) a w
  | [], [], a, w, n, D, _, _, hown, _, _, hK => hK w hown ⟨rfl, rfl, rfl, Nat.le_refl _, fun _ _ _ => rfl⟩
  | o :: os, e :: es, a, w, n, D, hi, hm, hown, hn, hl, hK => by
    obtain ⟨⟨hg, hd, hop⟩, hi⟩ := hi
    have hle := hl e (by simp)
    simp only [List.length_cons] at hn
    refine wpList_insert_own w hg _ _ _ T hop ks ks (Maps.string_keyed hks) ht _ b n D hm hown (by unfold maxLen; omega) _ _ (.string e.1) rfl rfl (Go.WideMaps.keyOf_string_mk hks (s := ⟨⟨e.1⟩⟩) hle.1) _ [] (plainElem_string hks (s := ⟨⟨e.2⟩⟩) hle.2) ?_
    intro w1 h1 g1
    have hput : a.put o.dst undef = a := by rw [hd]; rfl
    rw [hput]
    refine wpList_inserts hks ht os es a w1 (n + 1) _ hi hm h1 (by omega) (fun x hx => hl x (by simp [hx])) fun w2 h2 g2 => hK w2 ?_ (grown_trans' g1 g2)
    have e1 : n + (e :: es).length = n + 1 + es.length := by simp only [List.length_cons]; omega
    rw [e1]
    exact h2
  | [], _ :: _, _, _, _, _, hi, _, _, _, _, _ => hi.elim
  | _ :: _, [], _, _, _, _, hi, _, _, _, _, _ => hi.elim
/-- What an insert into the map in slot m inserts. -/
def insertOf (T : TypeId) (m : Tmp) (o : Oper) : Option (List UInt8 × List UInt8) :=
  match o.op with
  | .insert t (.tmp m') (.const (.string k)) (.const (.string v)) => if t = T ∧ m' = m ∧ o.guard = none ∧ o.dst = none then some (k.data.toList, v.data.toList) else none
  | _ => none
theorem insertOf_some {T : TypeId} {m : Tmp} {o : Oper} {e : List UInt8 × List UInt8} (h : insertOf T m o = some e) :
    o.guard = none ∧ o.dst = none ∧ o.op = .insert T (.tmp m) (.const (.string ⟨⟨e.1⟩⟩)) (.const (.string ⟨⟨e.2⟩⟩)) := by
  unfold insertOf at h
  split at h
  · rename_i t m' k v ho
    split at h
    · rename_i hc
      obtain ⟨rfl, rfl, hg, hd⟩ := hc
      simp only [Option.some.injEq] at h
      subst h
      exact ⟨hg, hd, ho⟩
    · cases h
  · cases h
theorem insertsOk_of {T : TypeId} {m : Tmp} : ∀ {os : List Oper} {es : List (List UInt8 × List UInt8)}, os.map (insertOf T m) = es.map some → InsertsOk T m os es
  | [], [], _ => trivial
  | o :: os, e :: es, h => by
    simp only [List.map_cons, List.cons.injEq] at h
    exact ⟨insertOf_some h.1, insertsOk_of h.2⟩
  | [], _ :: _, h => by simp at h
  | _ :: _, [], h => by simp at h
theorem wpList_inserts_at {H : Type} {P : Program} {ops : Array Oper} {Q : Exit → Act → World → Prop} {T ks : TypeId} {b : Nat} (hks : P.underlying ks = some .string) (ht : P.underlying T = some (.map ks ks))
    (m : Tmp) (j : Nat) (l : List Oper) (es : List (List UInt8 × List UInt8)) (a : Act) (w : World) (n : Nat) (D : DataW H) (h : (l.take j).map (insertOf T m) = es.map some) (hm : a.eval (.tmp m) = .map (some b)) (hown : w.ownsMap P ks (plainElem P ks) b n D) (hn : n + es.length < 100000) (hl : es.all (fun e => decide (e.1.length ≤ 1000) && decide (e.2.length ≤ 1000)) = true)
    (hK : ∀ w', w'.ownsMap P ks (plainElem P ks) b (n + es.length) (mapData D es) → w.grownBy w' (some b) → wpList P ops Q (l.drop j) a w') : wpList P ops Q l a w := by
  rw [← List.take_append_drop j l]
  refine wpList_inserts hks ht _ es a w n D (insertsOk_of h) hm hown hn (fun e he => ?_) hK
  have := List.all_eq_true.1 hl e he
  simp only [Bool.and_eq_true, decide_eq_true_eq] at this
  exact ⟨by unfold maxLen; omega, by unfold maxLen; omega⟩
end Go.Proofs.Ytkgieaokckidmaa
