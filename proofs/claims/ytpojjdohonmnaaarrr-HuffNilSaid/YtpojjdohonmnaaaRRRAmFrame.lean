/-
  A part of an abstract machine that runs a function's text over symbolic values, and of the proof that the machine is sound over the model. No condition.
-/
import Derived.Test.YtpojjdohonmnaaaRRRAmTop
import Derived.ChangeSame
import Derived.Carry
namespace Go.Am
open Go Go.RowKit Go.ChangeShapes Go.WideShapes

theorem Ext.below {r : Nat → Prop} {ν ν' : Nm} {h' : Hp} {w w' : World} (hE : Ext r ν [] w ν' h' w') : Below w.heap.size w w' :=
  ⟨hE.os, hE.tape, hE.output, hE.size, fun k hk => hE.old k hk fun n cs sz hn => by simp [hget] at hn⟩

theorem RH.none (nx : Nat) (ν : Nm) (w : World) : RH nx ν [] w :=
  ⟨fun n cs hn => by simp [hget] at hn, fun n cs b sz hn => by simp [hget] at hn, fun n cs hn => by simp [hget] at hn, fun n m cs cs' b sz sz' hn => by simp [hget] at hn⟩

theorem Does.calls {P : Program} (hP : ProgOk P) {g : Nat} {fn : Func} {c : Code} (hf : P.funcs[g]? = some fn) (hb : fn.body = some c) {ys : Array Value} {w : World} {R : Value → World → Prop} (h : Does P g ys w R) :
    Calls P g ys w fun e w' => ∃ v, e = .returned v ∧ R v w' := by
  unfold Does at h
  rw [run_callFunc_body hP hf hb] at h
  refine Calls.mono h fun e w' he => ?_
  cases e with
  | returned v => exact ⟨v, rfl, he⟩
  | panicked _ => exact he.elim
  | outgrown => exact he.elim

def progNames (P : Program) : Bool := P.funcs.all fun fn => !fn.body.isSome || !(fn.name == "runtime.NumGoroutine")

theorem ProgOk.of {P : Program} (h1 : P.follows .mixedOrders = true) (h2 : progNames P = true) : ProgOk P := by
  refine ⟨h1, fun g fn hf hb hn => ?_⟩
  have := Array.all_eq_true_iff_forall_mem.1 h2 fn (Array.mem_of_getElem? hf)
  simp [hb, hn] at this

theorem envOk_nil (P : Program) : EnvOk P [] := fun g sp h => by simp [lk] at h

/-- a walk with no memory at hand that ends in 'true' -/
theorem calls_true {P : Program} (hP : ProgOk P) {E : List (Nat × Sp)} (hE : EnvOk P E) {n g : Nat} {ann : Ann} {fn : Func} {c : Code} (hf : P.funcs[g]? = some fn) (hb : fn.body = some c) {args : List V} {ys : Array Value} {w : World}
    (hr : ann.r = 0) (hargs : ∀ ν, RL ν args ys.toList) (hs : (segF P E n g ann args [] 0).sat ⟨fun v _ _ => v = .b true, fun _ _ _ _ => False⟩) :
    Calls P g ys w fun e w' => e = .returned (.bool true) ∧ Below w.heap.size w w' := by
  have := segF_sound (nx := 0) (ν := fun _ => none) (w := w) (R := fun y w' => y = .bool true ∧ Below w.heap.size w w') hP hE (by rw [hr]; exact Nat.le_refl _) (fun ν _ => hargs ν) (RH.none _ _ _) hs
    (fun v h' k ν' y w' hv hA hy hh => by
      have hv : v = .b true := hv
      subst hv
      exact ⟨hy.of_b, hA.ext.below⟩)
    (fun todo f h' k ν' a w' fn _ hv => hv.elim)
  refine Calls.mono (this.calls hP hf hb) fun e w' ⟨v, he, hv, hB⟩ => ⟨by rw [he, hv], hB⟩

variable {H : Type} {enc : TypeId × Value → H} {P : Program}

/-- the row's end: what was there reads as it did -/
theorem post_of_below {f : Func} {s : ChangeSpec} {apart fresh handsOn again : Bool} {W W' : World} {args : Array Value} {v : Value} {ds gs : List (DataW H)} {before pa pv : List MemPlace}
    (hW : DataW.Whole enc P f.params.toList s.vars apart W args.toList ds gs before)
    (hres : ∀ (b : Nat) (sp : Nat → Bool) (hd : Bool), DataW.TrodAll enc P W' b sp hd f.resultTypes.toList (v.resultList f.resultTypes.size) (s.fn H (ds ++ gs)).results [])
    (hargs : ∀ sp : Nat → Bool, (∀ p ∈ before, sp p.block = true) → DataW.TrodAll enc P W' 0 sp true f.params.toList args.toList (s.fn H (ds ++ gs)).args pa)
    (hvars : ∀ sp : Nat → Bool, (∀ p ∈ before, sp p.block = true) → DataW.TrodVars enc P W' sp s.vars (s.fn H (ds ++ gs)).vars pv)
    (hps : before = pa ++ pv) (hB : Below W.heap.size W W')
    (hok : ∀ (j : Nat) (t : TypeId) (r : Value), f.resultTypes[j]? = some t → (v.resultList f.resultTypes.size)[j]? = some r → Value.okWide P W' .any 0 t r) :
    s.post enc P f apart fresh handsOn again W args v W' := by
  have hlt : ∀ p ∈ before, p.block < W.heap.size := fun p hp => hW.lt p hp
  have hold : ∀ p ∈ before, (fun b => decide (b < W.heap.size)) p.block = true := fun p hp => by simpa using hlt p hp
  refine ⟨ds, gs, before, [], pa, pv, hW, hres _ _ _, hargs _ hold, hvars _ hold, World.keptBut_mono (fun p hp => ⟨hp, ?_⟩) (hB.frame (· ∈ before)), fun _ => ?_⟩
  · rw [hps, List.mem_append] at hp
    exact Or.inr hp
  · obtain ⟨_, _, _, _, _, hz, hn⟩ := hW
    refine ⟨hok, _, _, ([] ++ pa) ++ pv, ⟨[] ++ pa, pv, trodAll_append (hargs _ (fun _ _ => rfl)) (hres _ _ _), hvars _ (fun _ _ => rfl), rfl, ?_, ?_⟩, ?_⟩
    · intro b off hp
      have hm : MemPlace.cell b off ∈ before := by rw [hps]; simpa using hp
      rw [hB.frozen (p := ⟨b, off, none⟩) (hlt _ hm)]
      exact hz b off hm
    · intro ha
      have := hn ha
      rw [hps] at this
      simpa using this
    · intro p hp _
      rw [hps]
      simpa using hp

end Go.Am
