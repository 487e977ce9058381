/-
  What is proved: an evaluator of code that neither reads nor writes memory is sound: what it computes the call returns. No condition. (Own work; no program in sight.)
-/
import Derived.Test.YtdohpkdfmceimaaRows
import Derived.WalkKit
import Derived.Deep.QuietTactic
namespace Go.Proofs.Ytdohpkdfmceimaa
open Go.RowKit

/-- The value of a computation that asks nothing of the world. -/
def pv {α : Type} (P : Program) : Sem α → Option α
  | .pure a => some a
  | .program k => pv P (k P)
  | .mark _ k => pv P k
  | _ => none

theorem pv_run {α : Type} {P : Program} {s : Sem α} {a : α} (h : pv P s = some a) (w : World) : s.run P w = .ok a w := by
  induction s with
  | pure b => simp only [pv, Option.some.injEq] at h; subst h; rfl
  | program k ih => exact ih P h
  | mark m k ih => exact ih h
  | _ => simp [pv] at h

def evOps (P : Program) (call : FuncId → Array Value → Option Value) (ops : Array Oper) : List Oper → Act → Option Act
  | [], a => some a
  | o :: rest, a =>
    if Region.wanted o (yielded ops a.tmps) then
      match pv P (execOp a.eval o) with
      | some (.value v) => evOps P call ops rest (a.put o.dst v)
      | some .skip => evOps P call ops rest (a.put o.dst undef)
      | some (.enter f args) => match call f args with
        | some v => evOps P call ops rest (a.put o.dst v)
        | none => none
      | _ => none
    else evOps P call ops rest (a.put o.dst undef)

/-- What stands behind, where the first part ends as usual. -/
def bindE (r : Option (Exit × Act)) (f : Act → Option (Exit × Act)) : Option (Exit × Act) :=
  match r with
  | none => none
  | some (.normal, b) => f b
  | some (e, b) => some (e, b)

theorem bindE_cases {r : Option (Exit × Act)} {f : Act → Option (Exit × Act)} {e : Exit} {a : Act} (h : bindE r f = some (e, a)) :
    (∃ b, r = some (.normal, b) ∧ f b = some (e, a)) ∨ (r = some (e, a) ∧ e ≠ .normal) := by
  match r, h with
  | none, h => cases h
  | some (.normal, b), h => exact .inl ⟨b, rfl, h⟩
  | some (.exit id, b), h => simp only [bindE, Option.some.injEq, Prod.mk.injEq] at h; obtain ⟨rfl, rfl⟩ := h; exact .inr ⟨rfl, by simp⟩
  | some (.goto id, b), h => simp only [bindE, Option.some.injEq, Prod.mk.injEq] at h; obtain ⟨rfl, rfl⟩ := h; exact .inr ⟨rfl, by simp⟩
  | some (.ret, b), h => simp only [bindE, Option.some.injEq, Prod.mk.injEq] at h; obtain ⟨rfl, rfl⟩ := h; exact .inr ⟨rfl, by simp⟩
  | some (.panic ch, b), h => simp only [bindE, Option.some.injEq, Prod.mk.injEq] at h; obtain ⟨rfl, rfl⟩ := h; exact .inr ⟨rfl, by simp⟩
  | some (.outgrown, b), h => simp only [bindE, Option.some.injEq, Prod.mk.injEq] at h; obtain ⟨rfl, rfl⟩ := h; exact .inr ⟨rfl, by simp⟩

theorem then_of_ne {K : Act → World → Prop} {Q : Exit → Act → World → Prop} {e : Exit} {a : Act} {w : World} (he : e ≠ .normal) (h : Q e a w) : Exit.then K Q e a w := by
  cases e
  case normal => exact (he rfl).elim
  all_goals exact h

/-- The end of a block. -/
def outE (id : Nat) (e : Exit) : Exit :=
  match e with
  | .exit id' => if id' = id then .normal else .exit id'
  | e => e

theorem inBlock_of {id : Nat} {Q : Exit → Act → World → Prop} {e : Exit} {a : Act} {w : World} (h : Q (outE id e) a w) : Exit.inBlock id Q e a w := by
  cases e
  case exit id' =>
    unfold outE at h
    unfold Exit.inBlock
    by_cases hid : id' = id
    · simp only [hid, if_true] at h ⊢; exact h
    · simp only [hid, if_false] at h ⊢; exact h
  all_goals exact h

def evLoop (body : Act → Option (Exit × Act)) : Nat → Act → Option (Exit × Act)
  | 0, _ => none
  | n + 1, a => bindE (body a) (evLoop body n)

/-- 'dr': may a statement draw its order? -/
def evCode (P : Program) (dr : Bool) (call : FuncId → Array Value → Option Value) : Nat → Code → Act → Option (Exit × Act)
  | 0, _, _ => none
  | n + 1, c, a =>
    match c with
    | .skip => some (.normal, a)
    | .region _ ops draw => if !draw || (dr && (P.follows .mixedOrders && Region.lexB .any ops)) then (match evOps P call ops ops.toList a with
      | some a' => some (.normal, a')
      | none => none) else none
    | .seq x y => bindE (evCode P dr call n x a) (evCode P dr call n y)
    | .cond c x y => match a.eval c with
      | .bool true => evCode P dr call n x a
      | .bool false => evCode P dr call n y a
      | _ => none
    | .block id c => match evCode P dr call n c a with
      | some (e, a') => some (outE id e, a')
      | none => none
    | .loop c => evLoop (evCode P dr call n c) n a
    | .exit id => some (.exit id, a)
    | .ret => some (.ret, a)
    | _ => none

def evCall (P : Program) (dr : Bool) (m : Nat) : Nat → FuncId → Array Value → Option Value
  | 0, _, _ => none
  | n + 1, f, args =>
    match P.funcs[f]? with
    | none => none
    | some fn => match fn.body with
      | none => none
      | some c => match evCode P dr (evCall P dr m n) m c { tmps := args ++ Array.replicate (fn.ntmps - args.size) undef, defers := [] } with
        | some (.normal, a) | some (.ret, a) => if a.defers.isEmpty then pv P (results fn a.tmps) else none
        | _ => none

/-- The world behind such a call: as it was, but for draws, where these are let. -/
def SameW (dr : Bool) (w w' : World) : Prop := if dr then ∃ k, w' = w.drewN k else w = w'

theorem SameW.refl (dr : Bool) (w : World) : SameW dr w w := by
  cases dr
  · exact rfl
  · exact ⟨0, rfl⟩

theorem SameW.trans {dr : Bool} {a b c : World} (h : SameW dr a b) (k : SameW dr b c) : SameW dr a c := by
  cases dr
  · exact Eq.trans (show a = b from h) k
  · obtain ⟨i, rfl⟩ := h
    obtain ⟨j, rfl⟩ := k
    exact ⟨i + j, World.drewN_drewN a i j⟩

def CallSound (P : Program) (dr : Bool) (call : FuncId → Array Value → Option Value) : Prop :=
  ∀ f args v, call f args = some v → ∀ w, Calls P f args w fun e w' => e = .returned v ∧ SameW dr w w'

section
variable {P : Program} {dr : Bool} {call : FuncId → Array Value → Option Value}

theorem evOps_list (hc : CallSound P dr call) {ops : Array Oper} {Q : Exit → Act → World → Prop} : ∀ (l : List Oper) (a a' : Act) (w : World),
    evOps P call ops l a = some a' → (∀ w', SameW dr w w' → Q .normal a' w') → wpList P ops Q l a w
  | [], a, a', w, h, hq => by
    simp only [evOps, Option.some.injEq] at h
    subst h
    exact hq w (SameW.refl dr w)
  | o :: l, a, a', w, h, hq => by
    unfold evOps at h
    unfold wpList
    by_cases hw : Region.wanted o (yielded ops a.tmps) = true
    · rw [if_pos hw] at h
      rw [if_pos hw]
      refine .inl ?_
      unfold Oper.wp
      generalize hx : pv P (execOp a.eval o) = x at h
      match x, h with
      | none, h => cases h
      | some nx, h =>
        rw [pv_run hx w]
        cases nx <;> simp only [reduceCtorEq] at h <;> simp only [Oper.upon]
        case value v => exact evOps_list hc l _ _ w h hq
        case skip => exact evOps_list hc l _ _ w h hq
        case enter f args =>
          generalize hy : call f args = y at h
          match y, h with
          | none, h => cases h
          | some v, h =>
            refine (hc f args v hy w).mono ?_
            rintro e w1 ⟨rfl, h1⟩
            exact evOps_list hc l _ _ w1 h fun w' h2 => hq w' (h1.trans h2)
    · rw [if_neg hw] at h
      rw [if_neg hw]
      exact evOps_list hc l _ _ w h hq

theorem evOps_quiet (hc : CallSound P true call) {ops : Array Oper} {Q : Act → Prop} {w : World} : ∀ (l : List Oper) (a a' : Act),
    evOps P call ops l a = some a' → Q a' → wpQuiet P ops (fun w' => ∃ n, w' = w.drewN n) Q l a
  | [], a, a', h, hq => by
    simp only [evOps, Option.some.injEq] at h
    subst h
    exact hq
  | o :: l, a, a', h, hq => by
    unfold evOps at h
    unfold wpQuiet
    by_cases hw : Region.wanted o (yielded ops a.tmps) = true
    · rw [if_pos hw] at h
      rw [if_pos hw]
      unfold Oper.quiet Oper.quietAt
      generalize hx : pv P (execOp a.eval o) = x at h
      match x, h with
      | none, h => cases h
      | some nx, h =>
        cases nx <;> simp only [reduceCtorEq] at h
        case value v => exact ⟨v, fun w1 _ => by rw [pv_run hx w1]; exact ⟨rfl, rfl⟩, evOps_quiet hc l _ _ h hq⟩
        case skip => exact ⟨undef, fun w1 _ => by rw [pv_run hx w1]; exact ⟨rfl, rfl⟩, evOps_quiet hc l _ _ h hq⟩
        case enter f args =>
          generalize hy : call f args = y at h
          match y, h with
          | none, h => cases h
          | some v, h =>
            refine ⟨v, fun w1 hw1 => ?_, evOps_quiet hc l _ _ h hq⟩
            rw [pv_run hx w1]
            refine ⟨rfl, (hc f args v hy w1).mono ?_⟩
            rintro e w2 ⟨rfl, h2⟩
            obtain ⟨n, rfl⟩ := hw1
            obtain ⟨k, rfl⟩ := h2
            exact ⟨rfl, n + k, World.drewN_drewN w n k⟩
    · rw [if_neg hw] at h
      rw [if_neg hw]
      exact evOps_quiet hc l _ _ h hq

theorem evLoop_wp {c : Code} {body : Act → Option (Exit × Act)}
    (hb : ∀ (a a' : Act) (e : Exit) (w : World) (Q : Exit → Act → World → Prop), body a = some (e, a') → (∀ w', SameW dr w w' → Q e a' w') → c.wp P Q a w) :
    ∀ (n : Nat) (a a' : Act) (e : Exit) (w : World) (Q : Exit → Act → World → Prop), evLoop body n a = some (e, a') → (∀ w', SameW dr w w' → Q e a' w') → Code.rounds P c Q n a w
  | 0, a, a', e, w, Q, h, hq => by cases h
  | n + 1, a, a', e, w, Q, h, hq => by
    rw [rounds_succ]
    rcases bindE_cases h with ⟨b, h1, h2⟩ | ⟨h1, h2⟩
    · exact hb a b .normal w _ h1 fun w1 hw1 => evLoop_wp hb n b a' e w1 Q h2 fun w2 hw2 => hq w2 (hw1.trans hw2)
    · exact hb a a' e w _ h1 fun w1 hw1 => then_of_ne h2 (hq w1 hw1)

theorem evCode_wp (hc : CallSound P dr call) : ∀ (n : Nat) (c : Code) (a a' : Act) (e : Exit) (w : World) (Q : Exit → Act → World → Prop),
    evCode P dr call n c a = some (e, a') → (∀ w', SameW dr w w' → Q e a' w') → c.wp P Q a w
  | 0, c, a, a', e, w, Q, h, hq => by cases h
  | n + 1, c, a, a', e, w, Q, h, hq => by
    cases c
    case skip =>
      simp only [evCode, Option.some.injEq, Prod.mk.injEq] at h
      obtain ⟨rfl, rfl⟩ := h
      exact wp_skip (hq w (SameW.refl dr w))
    case exit id =>
      simp only [evCode, Option.some.injEq, Prod.mk.injEq] at h
      obtain ⟨rfl, rfl⟩ := h
      exact wp_exit (hq w (SameW.refl dr w))
    case ret =>
      simp only [evCode, Option.some.injEq, Prod.mk.injEq] at h
      obtain ⟨rfl, rfl⟩ := h
      exact wp_ret (hq w (SameW.refl dr w))
    case region id ops draw =>
      simp only [evCode] at h
      by_cases hd : (!draw || (dr && (P.follows .mixedOrders && Region.lexB .any ops))) = true
      · rw [if_pos hd] at h
        generalize hx : evOps P call ops ops.toList a = x at h
        match x, h with
        | none, h => cases h
        | some b, h =>
          simp only [Option.some.injEq, Prod.mk.injEq] at h
          obtain ⟨rfl, rfl⟩ := h
          cases draw
          case false => exact wp_region_list (evOps_list hc _ _ _ _ hx hq)
          case true =>
            simp only [Bool.not_true, Bool.false_or, Bool.and_eq_true] at hd
            obtain ⟨rfl, hm, hB⟩ := hd
            exact wp_region_quiet (C := fun w' => ∃ n, w' = w.drewN n) hm hB ⟨1, rfl⟩ (evOps_quiet hc _ _ _ hx (fun w' hw' => hq w' hw'))
      · rw [if_neg hd] at h
        cases h
    case seq x y =>
      simp only [evCode] at h
      refine wp_seq ?_
      rcases bindE_cases h with ⟨b, h1, h2⟩ | ⟨h1, h2⟩
      · exact evCode_wp hc n x a b .normal w _ h1 fun w1 hw1 => evCode_wp hc n y b a' e w1 Q h2 fun w2 hw2 => hq w2 (hw1.trans hw2)
      · exact evCode_wp hc n x a a' e w _ h1 fun w1 hw1 => then_of_ne h2 (hq w1 hw1)
    case cond c x y =>
      simp only [evCode] at h
      generalize hx : a.eval c = r at h
      match r, h with
      | .bool true, h => exact wp_cond_true hx (evCode_wp hc n x a a' e w Q h hq)
      | .bool false, h => exact wp_cond_false hx (evCode_wp hc n y a a' e w Q h hq)
    case block id c =>
      simp only [evCode] at h
      refine wp_block ?_
      generalize hx : evCode P dr call n c a = r at h
      match r, h with
      | none, h => cases h
      | some (e1, b), h =>
        simp only [Option.some.injEq, Prod.mk.injEq] at h
        obtain ⟨rfl, rfl⟩ := h
        exact evCode_wp hc n c a b e1 w _ hx fun w1 h1 => inBlock_of (hq w1 h1)
    case loop c =>
      simp only [evCode] at h
      exact wp_loop_rounds n (evLoop_wp (evCode_wp hc n c) n a a' e w Q h hq)
    all_goals simp only [evCode, reduceCtorEq] at h

theorem evCall_sound (P : Program) (dr : Bool) (m : Nat) : ∀ n, CallSound P dr (evCall P dr m n)
  | 0 => fun f args v h => by cases h
  | n + 1 => fun f args v h w => by
    unfold evCall at h
    generalize hf : P.funcs[f]? = r at h
    match r, h with
    | none, h => cases h
    | some fn, h =>
      simp only at h
      generalize hb : fn.body = r at h
      match r, h with
      | none, h => cases h
      | some c, h =>
        simp only at h
        refine calls_of_wp hf hb ?_
        generalize hx : evCode P dr (evCall P dr m n) m c { tmps := args ++ Array.replicate (fn.ntmps - args.size) undef, defers := [] } = r at h
        match r, h with
        | none, h => cases h
        | some (.normal, a), h =>
          simp only at h
          by_cases hd : a.defers.isEmpty = true
          · rw [if_pos hd] at h
            exact evCode_wp (evCall_sound P dr m n) m c _ a .normal w _ hx fun w1 h1 => ⟨by simpa using hd, v, pv_run h w1, rfl, h1⟩
          · rw [if_neg hd] at h; cases h
        | some (.ret, a), h =>
          simp only at h
          by_cases hd : a.defers.isEmpty = true
          · rw [if_pos hd] at h
            exact evCode_wp (evCall_sound P dr m n) m c _ a .ret w _ hx fun w1 h1 => ⟨by simpa using hd, v, pv_run h w1, rfl, h1⟩
          · rw [if_neg hd] at h; cases h
        | some (.exit _, a), h => cases h
        | some (.goto _, a), h => cases h
        | some (.panic _, a), h => cases h
        | some (.outgrown, a), h => cases h

def asB : Option Value → Option Bool
  | some (.bool b) => some b
  | _ => none
def asI : Option Value → Option Int
  | some (.int _ n) => some n
  | _ => none

/-- A call of one byte that is answered by a bool: held at all bytes. -/
theorem byte_bool {P : Program} {f : FuncId} (spec : UInt8 → Bool) (m n : Nat)
    (h : (List.range 256).all (fun c => asB (evCall P false m n f #[.int .u8 (c : Nat)]) == some (spec (UInt8.ofNat c))) = true) (c : UInt8) (w : World) :
    Calls P f #[.int .u8 c.toNat] w fun e w' => e = .returned (.bool (spec c)) ∧ w = w' := by
  have h1 := List.all_eq_true.1 h c.toNat (by simp; exact c.toNat_lt)
  have h2 := beq_iff_eq.1 h1
  simp only [UInt8.ofNat_toNat] at h2
  generalize hx : evCall P false m n f #[.int .u8 (c.toNat : Nat)] = x at h2
  match x, h2 with
  | some (.bool b), h2 =>
    simp only [asB, Option.some.injEq] at h2
    subst h2
    exact evCall_sound P false m n f _ _ hx w
end
end Go.Proofs.Ytdohpkdfmceimaa
