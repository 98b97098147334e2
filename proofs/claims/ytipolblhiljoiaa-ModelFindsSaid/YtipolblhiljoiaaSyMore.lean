/- Sy: a walk that is cut in two: what the first part leaves, whatever way it took, and the rest from there. -/
import Derived.Test.YtipolblhiljoiaaSyKit
namespace Go.Proofs.Ytipolblhiljoiaa.Sy
open Go Go.RowKit
set_option linter.unusedVariables false
set_option linter.unusedSimpArgs false
/-- The first parts of a sequence, as many as the list has entries, and what is left. -/
def headC : List Nat → Code → Code
  | _ :: l, .seq a b => .seq a (headC l b)
  | _, _ => .skip
def tailC : List Nat → Code → Code
  | _ :: l, .seq a b => tailC l b
  | _, c => c
section
variable {P : Program} {J : Jd}
/-- A cut with what the first part leaves. -/
theorem WPg.cutW : ∀ (l : List Nat) (inv : St → Prop) {c : Code} {st : St} {Q : Exit → St → Prop} (h1 : exec J P (headC l c) st fun e s => match e with
    | .normal => ∃ s', Wk J.base s s' ∧ inv s'
    | e => Q e s) (h2 : ∀ s, inv s → WPg J P (tailC l c) s Q), WPg J P c st Q
  | [], inv, c, st, Q, h1, h2 => by
    have e1 : headC [] c = .skip := by cases c <;> rfl
    have e2 : tailC [] c = c := by cases c <;> rfl
    rw [e1] at h1
    obtain ⟨s', hw, hi⟩ := h1
    have := h2 s' hi
    rw [e2] at this
    exact WPg.weak hw this
  | k :: l, inv, .seq a b, st, Q, h1, h2 => fun E r n C x ho hE hr hf => by
    refine wpIn_seq (wpIn_mono (exec_sound a st _ h1 E r n C x ho hE hr hf) ?_)
    rintro e a' W' ⟨C', st', rfl, g2, g3, g4⟩
    cases e with
    | normal => exact WPg.cutW l inv g4 h2 E r n C' a' ho hE g2 g3
    | _ => exact ⟨C', st', rfl, g2, g3, g4⟩
  | k :: l, inv, .skip, st, Q, ⟨s', hw, hi⟩, h2 => WPg.weak hw (h2 s' hi)
  | k :: l, inv, .region _ _ _, st, Q, ⟨s', hw, hi⟩, h2 => WPg.weak hw (h2 s' hi)
  | k :: l, inv, .cond _ _ _, st, Q, ⟨s', hw, hi⟩, h2 => WPg.weak hw (h2 s' hi)
  | k :: l, inv, .block _ _, st, Q, ⟨s', hw, hi⟩, h2 => WPg.weak hw (h2 s' hi)
  | k :: l, inv, .loop _, st, Q, ⟨s', hw, hi⟩, h2 => WPg.weak hw (h2 s' hi)
  | k :: l, inv, .rangeFunc _ _ _ _, st, Q, ⟨s', hw, hi⟩, h2 => WPg.weak hw (h2 s' hi)
  | k :: l, inv, .exit _, st, Q, ⟨s', hw, hi⟩, h2 => WPg.weak hw (h2 s' hi)
  | k :: l, inv, .ret, st, Q, ⟨s', hw, hi⟩, h2 => WPg.weak hw (h2 s' hi)
  | k :: l, inv, .scope _, st, Q, ⟨s', hw, hi⟩, h2 => WPg.weak hw (h2 s' hi)
  | k :: l, inv, .label _, st, Q, ⟨s', hw, hi⟩, h2 => WPg.weak hw (h2 s' hi)
  | k :: l, inv, .goto _, st, Q, ⟨s', hw, hi⟩, h2 => WPg.weak hw (h2 s' hi)
  | k :: l, inv, .refuse _, st, Q, ⟨s', hw, hi⟩, h2 => WPg.weak hw (h2 s' hi)
theorem WPg.run {c : Code} {st : St} {Q : Exit → St → Prop} (h : exec J P c st Q) : WPg J P c st Q := exec_sound c st Q h
/-- A loop whose body's walk is cut. -/
theorem WPg.loopC {b : Code} {st : St} {Q : Exit → St → Prop} (Inv : Nat → St → Prop) (h0 : ∃ n0 s0, Wk J.base st s0 ∧ Inv n0 s0)
    (step : ∀ m s, Inv m s → WPg J P b s fun e s' => match e with
      | .normal => ∃ k s'', k < m ∧ Wk J.base s' s'' ∧ Inv k s''
      | e => Q e s') : WPg J P (.loop b) st Q := by
  obtain ⟨n0, s0, hw, hi⟩ := h0
  refine WPg.weak hw (WPg.loop (fun k s => ∃ s', Wk J.base s s' ∧ Inv k s') n0 ⟨s0, Wk.refl s0, hi⟩ ?_)
  rintro m s ⟨s', hw', hi'⟩
  refine WPg.weak hw' (WPg.mono (step m s' hi') ?_)
  intro e s2 h
  cases e with
  | normal =>
    obtain ⟨k, s'', h1, h2, h3⟩ := h
    exact ⟨k, h1, s'', h2, h3⟩
  | _ => exact h
@[simp ↓] theorem exec_headC (k : Nat) (l : List Nat) (a b : Code) (n : Nat) (regs : List (Nat × PV)) (obs : List (Nat × Ob)) (new : Nat) (Q : Exit → St → Prop) : exec J P (headC (k :: l) (.seq a b)) ⟨n, regs, obs, new⟩ Q = exec J P a ⟨n, regs, obs, new⟩ fun e s => match e with
    | .normal => exec J P (headC l b) s Q
    | e => Q e s := rfl
@[simp ↓] theorem exec_headC0 (c : Code) (n : Nat) (regs : List (Nat × PV)) (obs : List (Nat × Ob)) (new : Nat) (Q : Exit → St → Prop) : exec J P (headC [] c) ⟨n, regs, obs, new⟩ Q = Q .normal ⟨n, regs, obs, new⟩ := by cases c <;> rfl
@[simp ↓] theorem exec_tailC (k : Nat) (l : List Nat) (a b : Code) (n : Nat) (regs : List (Nat × PV)) (obs : List (Nat × Ob)) (new : Nat) (Q : Exit → St → Prop) : exec J P (tailC (k :: l) (.seq a b)) ⟨n, regs, obs, new⟩ Q = exec J P (tailC l b) ⟨n, regs, obs, new⟩ Q := rfl
@[simp ↓] theorem exec_tailC0 (c : Code) (n : Nat) (regs : List (Nat × PV)) (obs : List (Nat × Ob)) (new : Nat) (Q : Exit → St → Prop) : exec J P (tailC [] c) ⟨n, regs, obs, new⟩ Q = exec J P c ⟨n, regs, obs, new⟩ Q := by
  have e2 : tailC [] c = c := by cases c <;> rfl
  rw [e2]
end
/-- As of_exec, of a body whose walk is cut. -/
theorem CallTo.of_run {P : Program} {f : FuncId} {fn : Func} {c : Code} {n : Nat} {res : List ResultVar} {args : List PV} {pre : List (Nat × Ob)} {r : PV} {post : List (Nat × Ob)} (hf : P.funcs[f]? = some fn) (hb : fn.body = some c) (hent : entersB P f = true)
    (hn : fn.ntmps = n) (hres : fn.results.toList = res) (hlen : args.length ≤ n) (hpre : ∀ n, 64 ≤ n → lookO pre n = none) (h : WPg (.fn 64) P c ⟨n, parRegs 0 args, pre, 64⟩ (retR P res r pre post)) : CallOk P f args pre r post := by
  subst hn; subst hres
  refine .of_walk hf hb hent hlen hpre (WPg.wkQ (WPg.mono h ?_)) (fun h => by cases h)
  intro e s hq
  obtain ⟨h1, s', h2, h3⟩ := hq
  exact ⟨s', h2, h1, h3⟩
end Go.Proofs.Ytipolblhiljoiaa.Sy
