/-
  A part of an abstract machine that runs a function's text over symbolic values, and of the proof that the machine is sound over the model. No condition.
-/
import Derived.Test.YtpojjdohonmnaaaRRRAmEv1
namespace Go.Am
open Go Go.RowKit

structure Lf where
  ret : V → Hp → Nat → Prop
  head : List Item → Fr → Hp → Nat → Prop

def Tree.sat (K : Lf) : Tree → Prop
  | .ret v h nx => K.ret v h nx
  | .head todo f h nx => K.head todo f h nx
  | .all _ k => ∀ x, (k x).sat K
  | .asm p t => p → t.sat K
  | .fail => False

/-- slots -/
structure RA (nx : Nat) (ν : Nm) (sz : Nat) (f : Fr) (a : Act) : Prop where
  slot : ∀ t, RVn nx ν (get f t) (a.tmps.getD t undef)
  size : sz ≤ a.tmps.size
  defers : a.defers = []

variable {P : Program} {nx nx' : Nat} {r : Nat → Prop} {ν ν' : Nm} {h h' : Hp} {w w' : World}

theorem rvn_val (y : Value) : RVn nx ν (ofVal y) y := by
  intro ν' _
  cases y <;> first
    | exact .b _
    | exact .i _ _
    | exact .s _ _ rfl
    | exact .nf
    | exact .ni
    | exact .dk _
    | skip
  case pointer a => cases a <;> first | exact .pn | exact .dk _
  case slice a l c => cases a <;> first | exact .sln l c | exact .dk _
  case map a => cases a <;> first | exact .mpn | exact .dk _

theorem RA.ev {sz : Nat} {f : Fr} {a : Act} (hR : RA nx ν sz f a) (x : Operand) : RVn nx ν (ev f x) (a.eval x) := by
  cases x with
  | tmp t => exact hR.slot t
  | const v => exact rvn_val v
  | global g => exact fun _ _ => .dk _
  | func g => exact fun _ _ => .fn g [] [] #[] #[] .nil .nil

theorem get_cons (f : Fr) (a : Nat) (v : V) (t : Nat) : get ((a, v) :: f) t = if a = t then v else get f t := by
  simp only [get]
  cases hb : Nat.beq a t with
  | true => have := Nat.eq_of_beq_eq_true hb; subst this; simp
  | false => have : ¬ a = t := by intro e; subst e; simp at hb
             simp [this]

theorem RA.mono {sz : Nat} {f : Fr} {a : Act} (hR : RA nx ν sz f a) (ha : Agr nx ν ν') (hl : nx ≤ nx') : RA nx' ν' sz f a :=
  ⟨fun t => (hR.slot t).mono ha hl, hR.size, hR.defers⟩

theorem RA.put {sz : Nat} {f : Fr} {a : Act} (hR : RA nx ν sz f a) {d : Option Nat} {v : V} {y : Value} (hv : RVn nx ν v y) (hd : dstOk sz d = true) :
    RA nx ν sz (Am.put f d v) (a.put d y) := by
  cases d with
  | none => exact hR
  | some d =>
    have hd : d < a.tmps.size := Nat.lt_of_lt_of_le (Nat.le_of_ble_eq_true hd) hR.size
    refine ⟨fun t => ?_, by simpa [Act.put] using hR.size, hR.defers⟩
    simp only [Am.put, Act.put, get_cons]
    split
    · rename_i e; subst e
      simp [Array.getD_eq_getD_getElem?, hd]; exact hv
    · rename_i e
      rw [Array.getD_eq_getD_getElem?, Array.getElem?_setIfInBounds_ne e, ← Array.getD_eq_getD_getElem?]
      exact hR.slot t

/-- what a call of a function does -/
def Does (P : Program) (g : FuncId) (args : Array Value) (w : World) (R : Value → World → Prop) : Prop :=
  match (callFunc g args).run P w with
  | .ok (.value v) w' => R v w'
  | .ok (.enter f args') w' => Calls P f args' w' fun
    | .returned v, w'' => R v w''
    | _, _ => False
  | _ => False

theorem Does.mono {g : FuncId} {args : Array Value} {R R' : Value → World → Prop} (h : Does P g args w R) (hr : ∀ v w', R v w' → R' v w') : Does P g args w R' := by
  unfold Does at *
  generalize (callFunc g args).run P w = q at *
  cases q with
  | ok n w' =>
    cases n <;> try exact h.elim
    · exact hr _ _ h
    · exact Calls.mono h (fun e w'' he => by cases e <;> first | exact hr _ _ he | exact he)
  | halt _ _ => exact h.elim

/-- names that may be written -/
abbrev Up (r : Nat) : Nat → Prop := fun n => r ≤ n
abbrev Nil : Nat → Prop := fun _ => False

theorem Ext.quiet (hE : Ext Nil ν h w ν h w') : Ext r ν h w ν h w' :=
  ⟨hE.os, hE.tape, hE.output, hE.size, fun b hb _ => hE.old b hb fun _ _ _ _ hn => hn.elim, fun n cs b sz hn hr hν => .inr ⟨n, cs, sz, hn, hr, hν⟩⟩

/-- what may have changed -/
structure After (r : Nat) (nx : Nat) (ν : Nm) (h : Hp) (w : World) (nx' : Nat) (ν' : Nm) (h' : Hp) (w' : World) : Prop where
  le : nx ≤ nx'
  agr : Agr nx ν ν'
  ext : Ext (Up r) ν h w ν' h' w'

variable {q : Nat}

theorem After.refl (q nx : Nat) (ν : Nm) (h : Hp) (w : World) : After q nx ν h w nx ν h w := ⟨Nat.le_refl _, Agr.refl _ _, Ext.refl _ _ _ _⟩
theorem After.trans {nx'' : Nat} {ν'' : Nm} {h'' : Hp} {w'' : World} (a : After q nx ν h w nx' ν' h' w') (b : After q nx' ν' h' w' nx'' ν'' h'' w'') : After q nx ν h w nx'' ν'' h'' w'' :=
  ⟨Nat.le_trans a.le b.le, a.agr.trans (b.agr.mono a.le), a.ext.trans b.ext⟩

def Reach (q nx : Nat) (ν : Nm) (h : Hp) (w : World) (D : V → Hp → Nat → Tree) (L : Lf) (y : Value) (w' : World) : Prop :=
  ∃ v h' nx' ν', After q nx ν h w nx' ν' h' w' ∧ RVn nx' ν' v y ∧ RH nx' ν' h' w' ∧ (D v h' nx').sat L

def SpOk (P : Program) (g : Nat) : Sp → Prop
  | .pure sp => ∀ args ys h nx ν w, RLn nx ν args ys.toList → RH nx ν h w → (sp args h).1 = true →
      Does P g ys w fun y w' => RVn nx ν (sp args h).2 y ∧ RH nx ν h w' ∧ Ext Nil ν h w ν h w'
  | .gen sp => ∀ args ys h nx ν w D L, RLn nx ν args ys.toList → RH nx ν h w → (sp args h nx D).sat L → Does P g ys w (Reach 0 nx ν h w D L)

def EnvOk (P : Program) (E : List (Nat × Sp)) : Prop := ∀ g sp, lk E g = some sp → SpOk P g sp
def InlOk (P : Program) (q : Nat) (inl : Caller) : Prop :=
  ∀ g args ys h nx ν w D L, RLn nx ν args ys.toList → RH nx ν h w → (inl args g h nx D).sat L → Does P g ys w (Reach q nx ν h w D L)

/-- a call of a function value -/
theorem run_callv {σ : Operand → Value} {o : Oper} {c : Call} {x : Operand} (ho : o.op = .call c) (hc : c.callee = .value x) {g : Nat} {ys ys' : Array Value}
    (hx : σ x = .func (.func g) ys ys') (w : World) : (execOp σ o).run P w = (callFunc g (ys ++ c.args.map σ ++ ys')).run P w := by
  simp only [execOp, ho, resolve, hc, hx, Deferred.ofValue, invoke, Sem.run_bind, Sem.run_pure, Result.andThen_ok]

theorem RLn.append {l l' : List V} {ys ys' : List Value} (a : RLn nx ν l ys) (b : RLn nx ν l' ys') : RLn nx ν (l ++ l') (ys ++ ys') := fun ν' ha => (a ν' ha).append (b ν' ha)

theorem RLn.of_args {ρ : Operand → V} {σ : Operand → Value} (hρ : ∀ x, RVn nx ν (ρ x) (σ x)) (l : List Operand) : RLn nx ν (l.map ρ) (l.map σ) :=
  fun ν' ha => RL.of_map ρ σ (fun x => hρ x ν' ha) l

theorem Does.upon {o : Oper} {a : Act} {c : Call} {x : Operand} (ho : o.op = .call c) (hc : c.callee = .value x) {g : Nat} {ys ys' : Array Value}
    (hx : a.eval x = .func (.func g) ys ys') {next : Act → World → Prop} {Q : Exit → Act → World → Prop}
    (h : Does P g (ys ++ c.args.map a.eval ++ ys') w fun y w' => next (a.put o.dst y) w') : o.wp P a w next Q := by
  unfold Oper.wp
  rw [run_callv ho hc hx]
  unfold Does at h
  generalize (callFunc g (ys ++ c.args.map a.eval ++ ys')).run P w = q at *
  cases q with
  | ok n w' =>
    cases n <;> try exact h.elim
    · exact h
    · exact Calls.mono h (fun e w'' he => by cases e <;> first | exact he | exact he.elim)
  | halt _ _ => exact h.elim

theorem evCall_sound {E : List (Nat × Sp)} {inl : Caller} (hE : EnvOk P E) (hI : InlOk P q inl) {ρ : Operand → V} {a : Act} (hρ : ∀ x, RVn nx ν (ρ x) (a.eval x))
    (hh : RH nx ν h w) {o : Oper} {c : Call} {x : Operand} (ho : o.op = .call c) (hc : c.callee = .value x) {K : V → Hp → Nat → Tree} {L : Lf}
    {next : Act → World → Prop} {Q : Exit → Act → World → Prop} (hs : (evCall q E inl ρ h nx c K).sat L)
    (hK : ∀ v y h' nx' ν' w', After q nx ν h w nx' ν' h' w' → RVn nx' ν' v y → RH nx' ν' h' w' → (K v h' nx').sat L → next (a.put o.dst y) w') : o.wp P a w next Q := by
  simp only [evCall, hc] at hs
  have hx := hρ x
  generalize hv : ρ x = v at *
  cases v <;> try (exact hs.elim)
  rename_i g first caps
  dsimp only at hs
  generalize hy : a.eval x = y at *
  have hx' := hx.here
  cases hx' with
  | fn _ _ _ ys ys' h1 h2 =>
    have hargs : RLn nx ν (first ++ c.args.toList.map ρ ++ caps) (ys ++ c.args.map a.eval ++ ys').toList := by
      simp only [Array.toList_append, Array.toList_map]
      refine RLn.append (RLn.append (fun ν' ha => ?_) (RLn.of_args hρ _)) (fun ν' ha => ?_)
      · have := hx ν' ha
        cases this with | fn _ _ _ _ _ k1 k2 => exact k1
      · have := hx ν' ha
        cases this with | fn _ _ _ _ _ k1 k2 => exact k2
    refine Does.upon ho hc hy ?_
    cases hl : lk E g with
    | none =>
      simp only [hl] at hs
      exact (hI g _ _ h nx ν w K L hargs hh hs).mono fun y w' ⟨v, h', nx', ν', k1, k2, k3, k4⟩ => hK v y h' nx' ν' w' k1 k2 k3 k4
    | some sp =>
      simp only [hl] at hs
      cases sp with
      | pure sp =>
        dsimp only at hs
        cases hk : (sp (first ++ c.args.toList.map ρ ++ caps) h).1 with
        | false => simp only [hk, cond_false] at hs; exact hs.elim
        | true =>
          simp only [hk, cond_true] at hs
          exact (hE g _ hl _ _ h nx ν w hargs hh hk).mono fun y w' ⟨k1, k2, k3⟩ => hK _ y h nx ν w' ⟨Nat.le_refl _, Agr.refl _ _, k3.quiet⟩ k1 k2 hs
      | gen sp =>
        dsimp only at hs
        cases hq : Nat.beq q 0 with
        | false => simp only [hq, cond_false] at hs; exact hs.elim
        | true =>
        simp only [hq, cond_true] at hs
        have hq := Nat.eq_of_beq_eq_true hq
        subst hq
        exact (hE g _ hl _ _ h nx ν w K L hargs hh hs).mono fun y w' ⟨v, h', nx', ν', k1, k2, k3, k4⟩ => hK v y h' nx' ν' w' k1 k2 k3 k4

end Go.Am
