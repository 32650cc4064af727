/-
  A part of an abstract machine that runs a function's text over symbolic values, and of the proof that the machine is sound over the model. No condition.
-/
import Derived.Test.YtpojjdohonmnaaaRRRAmFn
namespace Go.Am
open Go Go.RowKit

variable {q : Nat} {P : Program} {nx nx' : Nat} {ν ν' : Nm} {h h' : Hp} {w w' : World}

structure ProgOk (P : Program) : Prop where
  mixed : P.follows .mixedOrders = true
  names : ∀ (g : Nat) (fn : Func), P.funcs[g]? = some fn → fn.body.isSome = true → fn.name ≠ "runtime.NumGoroutine"

/-- a region's work, from first to last -/
def regionT (P : Program) (r : Nat) (E : List (Nat × Sp)) (inl : Caller) (sz : Nat) (ops : Array Oper) (dr : Bool) (f : Fr) (h : Hp) (nx : Nat) (K : Fr → Hp → Nat → Tree) : Tree :=
  let l := ops.toList
  let sr := srcs l
  bif dr then
    let bs := befores l []
    let t := headLen bs
    bif !backOk l 0 then .fail else
    evDraw P r E ops sr sz bs (l.take t) 0 [] f h nx fun f h nx =>
      evOps P r E inl ops sr sz (l.drop t) t f h nx fun f h nx => K f h nx
  else evOps P r E inl ops sr sz l 0 f h nx fun f h nx => K f h nx

def RegionOk (P : Program) : Prop := ∀ (q : Nat) (E : List (Nat × Sp)) (inl : Caller) (sz : Nat) (ops : Array Oper) (dr : Bool) (id : Nat) (f : Fr) (h : Hp) (nx : Nat) (K : Fr → Hp → Nat → Tree)
  (ν : Nm) (a : Act) (w : World) (L : Lf) (Q : Exit → Act → World → Prop), EnvOk P E → InlOk P q inl → RA nx ν sz f a → RH nx ν h w → (regionT P q E inl sz ops dr f h nx K).sat L →
  (∀ f' h' nx' ν' a' w', After q nx ν h w nx' ν' h' w' → RA nx' ν' sz f' a' → RH nx' ν' h' w' → (K f' h' nx').sat L → Q .normal a' w') → (Code.region id ops dr).wp P Q a w

theorem Goes.of_wp {g : Nat} {c : Code} {k : List Item} {a : Act} {R : Value → World → Prop} (h : c.wp P (fun e a' w' => e = .normal ∧ Goes P g k a' w' R) a w) : Goes P g (.code c :: k) a w R := by
  intro b cs hb hk
  obtain ⟨e, a', w', ⟨rfl, hg⟩, ha⟩ := h b k cs
  obtain ⟨v, w'', fr, r, s, rest⟩ := hg b cs hb hk
  exact ⟨v, w'', fr, r, Steps.trans ha s, rest⟩

theorem run_callFunc_body (hP : ProgOk P) {g : Nat} {fn : Func} {c : Code} (hf : P.funcs[g]? = some fn) (hb : fn.body = some c) (ys : Array Value) (w : World) :
    (callFunc g ys).run P w = .ok (.enter g ys) w := by
  have hn := hP.names g fn hf (by rw [hb]; rfl)
  simp only [callFunc, Sem.run_bind, run_program, Result.andThen_ok, hf]
  rw [if_neg (by simpa using hn), if_neg (by simp [hb]), Sem.run_pure]

theorem get_zipIdx (l : List V) : ∀ (i t : Nat), i ≤ t → get ((l.zipIdx i).map fun p => (p.2, p.1)) t = (l[t - i]?).getD .dk := by
  induction l with
  | nil => intro i t _; simp [get]
  | cons v l ih =>
    intro i t hi
    simp only [List.zipIdx_cons, List.map_cons, get_cons]
    split
    · rename_i e; subst e; simp
    · rename_i e
      rw [ih (i + 1) t (by omega)]
      rw [show t - i = (t - (i + 1)) + 1 by omega]
      simp

theorem RA.enter {args : List V} {ys : Array Value} (hr : RLn nx ν args ys.toList) (n : Nat) :
    RA nx ν n (args.zipIdx.map fun p => (p.2, p.1)) { tmps := ys ++ Array.replicate (n - ys.size) undef, defers := [] } := by
  refine ⟨fun t => ?_, by simp; omega, rfl⟩
  rw [get_zipIdx args 0 t (Nat.zero_le _), Nat.sub_zero]
  intro ν' ha
  have hl := hr ν' ha
  cases hv : args[t]? with
  | none => exact .dk _
  | some v =>
    obtain ⟨y, hy, hv'⟩ := hl.get t v hv
    rw [Array.getElem?_toList] at hy
    simp only [Option.getD_some]
    rw [Array.getD_eq_getD_getElem?, Array.getElem?_append_left (Array.getElem?_eq_some_iff.1 hy).1, hy]
    exact hv'

theorem Does.of_goes (hP : ProgOk P) {g : Nat} {fn : Func} {c : Code} (hf : P.funcs[g]? = some fn) (hb : fn.body = some c) {ys : Array Value} {R : Value → World → Prop}
    (h : Goes P g [.code c] { tmps := ys ++ Array.replicate (fn.ntmps - ys.size) undef, defers := [] } w R) : Does P g ys w R := by
  unfold Does
  rw [run_callFunc_body hP hf hb]
  intro cs
  have henter : Frame.enter P g ys .normal = ({ (default : Frame) with fn := g, kind := .normal } : Frame).at { tmps := ys ++ Array.replicate (fn.ntmps - ys.size) undef, defers := [] } [.code c] := by
    simp [Frame.enter, Frame.at, hf, hb]
  obtain ⟨v, w', fr, hR, hs, h1, h2⟩ := h { (default : Frame) with fn := g, kind := .normal } cs rfl rfl
  exact ⟨.returned v, w', fr, hR, henter ▸ hs, h1, h2⟩

theorem seg_sound (hP : ProgOk P) (hreg : RegionOk P) {E : List (Nat × Sp)} (hE : EnvOk P E) : ∀ (n : Nat) {g : Nat} {fn : Func} (_ : P.funcs[g]? = some fn) (st : Stat) (todo : List Item) (f : Fr) (h : Hp) (nx : Nat)
    (ν : Nm) (a : Act) (w : World) (D : V → Hp → Nat → Tree) (L : Lf) (R : Value → World → Prop),
    st.rs = fn.results.toList → RA nx ν st.sz f a → RH nx ν h w → (seg P E n st todo f h nx D).sat L →
    (∀ v h' nx' ν' y w', After st.r nx ν h w nx' ν' h' w' → RVn nx' ν' v y → RH nx' ν' h' w' → (D v h' nx').sat L → R y w') →
    (st.hd = true → ∀ hs todo' f' h' nx' ν' a' w', After st.r nx ν h w nx' ν' h' w' → RA nx' ν' st.sz f' a' → RH nx' ν' h' w' → (mkHead st.m hs todo' f' h' nx').sat L → Goes P g todo' a' w' R) →
    Goes P g todo a w R := by
  intro n
  induction n with
  | zero => intro g fn hf st todo f h nx ν a w D L R _ _ _ hs; exact hs.elim
  | succ n ih =>
    intro g fn hf st todo f h nx ν a w D L R hrs hR hh hs hD hH
    have here : ∀ {hs' todo'}, st.hd = true → (mkHead st.m hs' todo' f h nx).sat L → Goes P g todo' a w R := fun h1 h2 => hH h1 _ _ _ _ _ _ _ _ (After.refl _ _ _ _ _) hR hh h2
    have on : ∀ todo', (seg P E n st todo' f h nx D).sat L → Goes P g todo' a w R := fun todo' hs' => ih hf st todo' f h nx ν a w D L R hrs hR hh hs' hD hH
    have fin : ∀ todo' todo'', (finish P st.rs f h nx D).sat L → (∀ (b : Frame) cs, Go.step P (lone (b.at a todo') cs w) = .next (lone { b.at a todo'' with mode := .returning } cs w)) → Goes P g todo' a w R := by
      intro todo' todo'' hs' hst
      rw [hrs] at hs'
      obtain ⟨y, v, h1, h2, h3⟩ := finish_sound hR hh hs'
      exact Goes.leave hf hR.defers hst h1 (hD v h nx ν y w (After.refl _ _ _ _ _) h2 hh h3)
    have hInl : InlOk P st.r (inlOf P (seg P E n) st.r) := by
      intro g' args ys h nx ν w D' L' hargs hh' hs'
      unfold inlOf at hs'
      cases hf' : P.funcs[g']? with
      | none => simp only [hf'] at hs'; exact hs'.elim
      | some fn' =>
        simp only [hf'] at hs'
        cases hb' : fn'.body with
        | none => simp only [hb'] at hs'; exact hs'.elim
        | some c' =>
          simp only [hb'] at hs'
          refine Does.of_goes hP hf' hb' (ih hf' _ _ _ h nx ν _ w D' L' _ rfl (RA.enter hargs _) hh' hs' ?_ ?_)
          · intro v h' nx' ν' y w' k1 k2 k3 k4
            exact ⟨v, h', nx', ν', k1, k2, k3, k4⟩
          · intro hd; exact absurd hd (by simp)
    change (segStep P E (seg P E n) st todo f h nx D).sat L at hs
    cases todo with
    | nil => exact fin _ [] hs fun b cs => step_end
    | cons it k =>
      cases it <;> simp only [segStep] at hs <;> try exact hs.elim
      case inBlock id => exact Goes.step (fun b cs => step_inBlock) (on _ hs)
      case inScope c => exact Goes.step (fun b cs => step_inScope) (on _ hs)
      case inLoop body =>
        have key : ∀ (hs' : (seg P E n st (.code body :: .inLoop body :: k) f h nx D).sat L), Goes P g (.inLoop body :: k) a w R := fun hs' => Goes.step (fun b cs => step_inLoop) (on _ hs')
        cases k with
        | nil => exact key hs
        | cons it2 k2 =>
          cases it2 <;> simp only at hs <;> try exact key hs
          rename_i id
          cases hl : lk st.ann.blks id with
          | none => simp only [hl] at hs; exact key hs
          | some hs' =>
            simp only [hl] at hs
            cases hd : st.hd with
            | false => simp only [hd, cond_false] at hs; exact hs.elim
            | true => simp only [hd, cond_true] at hs; exact Goes.step (fun b cs => step_inLoop) (here hd hs)
      case code c =>
        cases c <;> simp only at hs <;> try exact hs.elim
        case ret => exact fin _ _ hs fun b cs => step_ret
        case skip => exact Goes.step (fun b cs => step_skip) (on _ hs)
        case label l =>
          cases hl : lk st.ann.lbls l with
          | none => simp only [hl] at hs; exact Goes.step (fun b cs => step_label) (on _ hs)
          | some hs' =>
            simp only [hl] at hs
            cases hd : st.hd with
            | false => simp only [hd, cond_false] at hs; exact hs.elim
            | true => simp only [hd, cond_true] at hs; exact Goes.step (fun b cs => step_label) (here hd hs)
        case seq x y => exact Goes.step (fun b cs => step_seq) (on _ hs)
        case cond o x y =>
          have hx := hR.ev o
          cases hv : ev f o <;> simp only [hv] at hs <;> try exact hs.elim
          rename_i t
          rw [hv] at hx
          have ht := hx.of_b
          refine Goes.step (fun b cs => step_cond ht) (on _ ?_)
          cases t <;> exact hs
        case block id body => exact Goes.step (fun b cs => step_block) (on _ hs)
        case loop body =>
          have key : ∀ (hs' : (seg P E n st (.code body :: .inLoop body :: k) f h nx D).sat L), Goes P g (.code (.loop body) :: k) a w R := fun hs' => Goes.step (fun b cs => step_loop) (on _ hs')
          cases k with
          | nil => exact key hs
          | cons it2 k2 =>
            cases it2 <;> simp only at hs <;> try exact key hs
            rename_i id
            cases hl : lk st.ann.blks id with
            | none => simp only [hl] at hs; exact key hs
            | some hs' =>
              simp only [hl] at hs
              cases hd : st.hd with
              | false => simp only [hd, cond_false] at hs; exact hs.elim
              | true => simp only [hd, cond_true] at hs; exact Goes.step (fun b cs => step_loop) (here hd hs)
        case scope body => exact Goes.step (fun b cs => step_scope) (on _ hs)
        case exit id =>
          cases hx : exitTo id k with
          | none => simp only [hx] at hs; exact hs.elim
          | some k' => simp only [hx] at hs; exact Goes.step (fun b cs => step_exit hx) (on _ hs)
        case goto l =>
          cases hx : gotoIn l k with
          | none => simp only [hx] at hs; exact hs.elim
          | some k' =>
            simp only [hx] at hs
            refine Goes.step (fun b cs => step_goto hx) ?_
            cases hl : lk st.ann.lbls l with
            | none => simp only [hl] at hs; exact on _ hs
            | some hs' =>
              simp only [hl] at hs
              cases hd : st.hd with
              | false => simp only [hd, cond_false] at hs; exact hs.elim
              | true =>
                simp only [hd, cond_true] at hs
                split at hs
                · exact Goes.step (fun b cs => step_seq) (Goes.step (fun b cs => step_skip) (here hd hs))
                · exact Goes.step (fun b cs => step_skip) (here hd hs)
                · exact here hd hs
        case region id ops dr =>
          cases hb : st.armed && (lk st.ann.regs id).isSome with
          | true =>
            simp only [hb, cond_true] at hs
            cases hl : lk st.ann.regs id with
            | none => simp only [hl] at hs; exact hs.elim
            | some hs' =>
              simp only [hl] at hs
              cases hd : st.hd with
              | false => simp only [hd, cond_false] at hs; exact hs.elim
              | true => simp only [hd, cond_true] at hs; exact here hd hs
          | false =>
            simp only [hb, cond_false] at hs
            refine Goes.of_wp (hreg st.r E (inlOf P (seg P E n) st.r) st.sz ops dr id f h nx (fun f h nx => seg P E n { st with armed := true } k f h nx D) ν a w L _ hE hInl hR hh hs ?_)
            intro f' h' nx' ν' a' w' hA hR' hh' hs'
            refine ⟨rfl, ih hf { st with armed := true } k f' h' nx' ν' a' w' D L R hrs hR' hh' hs' ?_ ?_⟩
            · intro v h'' nx'' ν'' y w'' k1 k2 k3 k4
              exact hD v h'' nx'' ν'' y w'' (hA.trans k1) k2 k3 k4
            · intro hd hs2 todo' f'' h'' nx'' ν'' a'' w'' k1 k2 k3 k4
              exact hH hd hs2 todo' f'' h'' nx'' ν'' a'' w'' (hA.trans k1) k2 k3 k4

end Go.Am
