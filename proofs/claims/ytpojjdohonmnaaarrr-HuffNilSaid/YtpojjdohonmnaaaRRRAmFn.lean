/-
  A part of an abstract machine that runs a function's text over symbolic values, and of the proof that the machine is sound over the model. No condition.
-/
import Derived.Test.YtpojjdohonmnaaaRRRAmOpsRun
namespace Go.Am
open Go Go.RowKit

variable {q : Nat} {P : Program} {nx nx' : Nat} {ν ν' : Nm} {h h' : Hp} {w w' : World}

def resRun (tmps : Array Value) : ResultVar → Sem Value
  | .tmp t => pure (tmps.getD t undef)
  | .cell a t => do loadVar t (← asAddr (tmps.getD a undef))

theorem resV_sound {sz : Nat} {f : Fr} {a : Act} (hR : RA nx ν sz f a) (hh : RH nx ν h w) (x : ResultVar) (hok : (resV P f h x).1 = true) :
    ∃ y, (resRun a.tmps x).run P w = .ok y w ∧ RVn nx ν (resV P f h x).2 y := by
  cases x with
  | tmp t => exact ⟨_, rfl, hR.slot t⟩
  | cell c t =>
    have hx := hR.slot c
    simp only [resV, ev1, ev] at hok ⊢
    simp only [resRun]
    generalize get f c = v at *
    generalize a.tmps.getD c undef = y at *
    cases v <;> try (simp [bad] at hok; done)
    rename_i p
    cases p with
    | none => simp [bad] at hok
    | some p =>
      dsimp only at hok ⊢
      cases hg : hget h p.n with
      | none => simp [hg, bad] at hok
      | some cs =>
        simp only [hg] at hok ⊢
        have hv := hx.here
        cases hv with
        | p _ b sz hν =>
          obtain ⟨c, e, fr, ys, hb, hs, hf, hc, zs, he⟩ := hh.read hg hν
          cases hk : aggK P t with
          | none => simp [hk, bad] at hok
          | some g =>
            have hty := aggK_tyOk hk
            cases g with
            | true =>
              simp only [hk] at hok ⊢
              obtain ⟨h1, h2⟩ := rdR_sound p.o p.d (P.cellsOf t) hc.here hok
              have hlen : ys.length ≤ c.size := by rw [← Array.length_toList, he]; simp
              refine ⟨.agg ((c.toList.drop (p.d + p.o)).take (P.cellsOf t)).toArray, ?_, ?_⟩
              · simp only [Sem.run_bind, asAddr, loadVar, Sem.run_pure, Result.andThen_ok, run_isAgg hk, run_sizeOf hty, if_true,
                  run_loadCells_row hb (n := P.cellsOf t) (o := p.d + p.o) (h1.imp id (fun h1 => by omega))]
              · intro ν' ha
                refine .ag _ _ ?_
                rw [List.toList_toArray, take_drop_prefix he h1]
                exact RCn_rdR hc hok ν' ha
            | false =>
              simp only [hk] at hok ⊢
              obtain ⟨y, hy, hv⟩ := rd1_sound p.o p.d hc.here hok
              have hcy : c[p.d + p.o]? = some y := by
                rw [← Array.getElem?_toList, he, List.getElem?_append_left (List.getElem?_eq_some_iff.1 hy).1]; exact hy
              refine ⟨y, ?_, ?_⟩
              · simp only [Sem.run_bind, asAddr, loadVar, Sem.run_pure, Result.andThen_ok, run_isAgg hk, Bool.false_eq_true, if_false, run_load, cell_of_row w b _ c e fr hb, hcy]
              · intro ν' ha
                obtain ⟨y', hy', hv'⟩ := rd1_sound p.o p.d (hc ν' ha) hok
                rw [hy] at hy'; cases hy'; exact hv'

theorem resVs_sound {sz : Nat} {f : Fr} {a : Act} (hR : RA nx ν sz f a) (hh : RH nx ν h w) : ∀ (l : List ResultVar), (resVs P f h l).1 = true →
    ∃ ys, (l.mapM (resRun a.tmps)).run P w = .ok ys w ∧ RLn nx ν (resVs P f h l).2 ys
  | [], _ => ⟨[], rfl, fun _ _ => .nil⟩
  | x :: l, hok => by
    simp only [resVs, Bool.and_eq_true] at hok
    obtain ⟨y, h1, h2⟩ := resV_sound hR hh x hok.1
    obtain ⟨ys, h3, h4⟩ := resVs_sound hR hh l hok.2
    refine ⟨y :: ys, ?_, fun ν' ha => .cons _ _ _ _ (h2 ν' ha) (h4 ν' ha)⟩
    rw [List.mapM_cons]
    simp only [Sem.run_bind, h1, h3, Result.andThen_ok, Sem.run_pure]

theorem finish_sound {sz : Nat} {f : Fr} {a : Act} (hR : RA nx ν sz f a) (hh : RH nx ν h w) {fn : Func} {D : V → Hp → Nat → Tree} {L : Lf}
    (hs : (finish P fn.results.toList f h nx D).sat L) : ∃ y v, (results fn a.tmps).run P w = .ok y w ∧ RVn nx ν v y ∧ (D v h nx).sat L := by
  unfold finish at hs
  cases hok : (resVs P f h fn.results.toList).1 with
  | false => simp only [hok, cond_false] at hs; exact hs.elim
  | true =>
    simp only [hok, cond_true] at hs
    obtain ⟨ys, h1, h2⟩ := resVs_sound hR hh fn.results.toList hok
    have hrun : (results fn a.tmps).run P w = .ok (if h : ys.toArray.size = 1 then ys.toArray[0] else .tuple ys.toArray) w := by
      have e : results fn a.tmps = (do let vs ← fn.results.mapM (resRun a.tmps); pure (if h : vs.size = 1 then vs[0] else .tuple vs)) := rfl
      rw [e, Array.mapM_eq_mapM_toList]
      simp only [Sem.run_bind, map_eq_pure_bind, Sem.run_pure, h1, Result.andThen_ok]
    generalize (resVs P f h fn.results.toList).2 = vs at *
    have hl := (h2 ν (Agr.refl _ _)).length
    cases vs with
    | nil =>
      cases ys with
      | cons _ _ => simp at hl
      | nil => exact ⟨_, _, hrun, fun ν' ha => .tu _ _ (h2 ν' ha), hs⟩
    | cons v vs =>
      cases ys with
      | nil => simp at hl
      | cons y ys =>
        cases vs with
        | nil =>
          cases ys with
          | cons _ _ => simp at hl
          | nil => exact ⟨y, v, by rw [hrun]; rfl, fun ν' ha => (by have := h2 ν' ha; cases this with | cons _ _ _ _ h _ => exact h), hs⟩
        | cons v' vs =>
          cases ys with
          | nil => simp at hl
          | cons y' ys =>
            refine ⟨_, _, by rw [hrun, dif_neg (by simp)], fun ν' ha => .tu _ _ (h2 ν' ha), hs⟩

/-- the machine's frame goes on from here and leaves with an answer -/
def Goes (P : Program) (g : Nat) (todo : List Item) (a : Act) (w : World) (R : Value → World → Prop) : Prop :=
  ∀ (b : Frame) (cs : List Frame), b.fn = g → b.kind = .normal →
    ∃ v w' fr, R v w' ∧ Steps P (lone (b.at a todo) cs w) (lone fr cs w') ∧ fr.fn = g ∧ fr.leaving P w' (.returned v)

theorem Goes.mono {g : Nat} {todo : List Item} {a : Act} {R R' : Value → World → Prop} (h : Goes P g todo a w R) (hr : ∀ v w', R v w' → R' v w') : Goes P g todo a w R' :=
  fun b cs hb hk => let ⟨v, w', fr, r, rest⟩ := h b cs hb hk; ⟨v, w', fr, hr _ _ r, rest⟩

theorem Goes.step {g : Nat} {todo todo' : List Item} {a a' : Act} {R : Value → World → Prop} (hs : ∀ (b : Frame) cs, Go.step P (lone (b.at a todo) cs w) = .next (lone (b.at a' todo') cs w'))
    (h : Goes P g todo' a' w' R) : Goes P g todo a w R :=
  fun b cs hb hk => let ⟨v, w', fr, r, s, rest⟩ := h b cs hb hk; ⟨v, w', fr, r, .head (hs b cs) s, rest⟩

/-- the function leaves -/
theorem Goes.leave {g : Nat} {fn : Func} (hf : P.funcs[g]? = some fn) {todo todo' : List Item} {a : Act} (hd : a.defers = [])
    (hs : ∀ (b : Frame) cs, Go.step P (lone (b.at a todo) cs w) = .next (lone { b.at a todo' with mode := .returning } cs w)) {y : Value} (hr : (results fn a.tmps).run P w = .ok y w)
    {R : Value → World → Prop} (hR : R y w) : Goes P g todo a w R := by
  intro b cs hb hk
  exact ⟨y, w, { b.at a todo' with mode := .returning }, hR, .one (hs b cs), hb, rfl, hd, hk, fn, by rw [← hf, ← hb]; rfl, hr⟩

end Go.Am
