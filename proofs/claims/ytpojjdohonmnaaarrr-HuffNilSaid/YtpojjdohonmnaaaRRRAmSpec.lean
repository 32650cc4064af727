/-
  A part of an abstract machine that runs a function's text over symbolic values, and of the proof that the machine is sound over the model. No condition.
-/
import Derived.Test.YtpojjdohonmnaaaRRRAmFrame
namespace Go.Am
open Go Go.RowKit

variable {P : Program} {nx nx' : Nat} {ν ν' : Nm} {h h' : Hp} {w w' : World}

/-- what was there is there yet -/
theorem RH.below (hh : RH nx ν h w) (hB : Below w.heap.size w w') : RH nx ν h w' :=
  ⟨hh.lt, fun n cs b sz hn hν => by
    have hb := hh.block_lt hn hν
    obtain ⟨c, e, fr, h1, h2⟩ := hh.blk n cs b sz hn hν
    exact ⟨c, e, fr, by rw [hB.block b hb]; exact h1, h2⟩, hh.nil, hh.inj⟩

theorem Ext.of_below (hB : Below w.heap.size w w') : Ext Am.Nil ν h w ν h w' :=
  ⟨hB.os, hB.tape, hB.output, hB.size, fun b hb _ => hB.block b hb, fun n cs b sz _ hr => hr.elim⟩

/-! values that hold no names -/
mutual
def V.clean : V → Bool
  | .p (some _) | .sl (some _) _ _ | .sq _ _ _ | .mp (some _) => false
  | .fn _ l l' => cleanL l && cleanL l'
  | .ag cs => cleanC cs
  | .tu l => cleanL l
  | .ifc _ v => v.clean
  | _ => true
def cleanL : List V → Bool
  | [] => true
  | v :: l => v.clean && cleanL l
def Seg.clean : Seg → Bool
  | .ints _ _ _ => true
  | .fam _ _ => false
  | .vs l => cleanL l
def cleanC : List Seg → Bool
  | [] => true
  | s :: l => s.clean && cleanC l
end

mutual
theorem RV.any : ∀ {v : V} {y : Value}, RV ν v y → v.clean = true → RV ν' v y
  | _, _, .dk y, _ => .dk y
  | _, _, .b t, _ => .b t
  | _, _, .i k n, _ => .i k n
  | _, _, .s s l h, _ => .s s l h
  | _, _, .pn, _ => .pn
  | _, _, .p a b sz h, hc => by simp [V.clean] at hc
  | _, _, .sln l c, _ => .sln l c
  | _, _, .sl a b sz off l c h h1 h2, hc => by simp [V.clean] at hc
  | _, _, .sq a b sz off w l c h h1 h2 h3, hc => by simp [V.clean] at hc
  | _, _, .sqn a w l h h1, hc => by simp [V.clean] at hc
  | _, _, .fn g l l' ys ys' h h', hc => by
    simp only [V.clean, Bool.and_eq_true] at hc
    exact .fn g l l' ys ys' (h.any hc.1) (h'.any hc.2)
  | _, _, .nf, _ => .nf
  | _, _, .ag cs ys h, hc => .ag cs ys (h.any (by simpa [V.clean] using hc))
  | _, _, .tu l ys h, hc => .tu l ys (h.any (by simpa [V.clean] using hc))
  | _, _, .ni, _ => .ni
  | _, _, .ifc t v y h, hc => .ifc t v y (h.any (by simpa [V.clean] using hc))
  | _, _, .mpn, _ => .mpn
theorem RL.any : ∀ {l : List V} {ys : List Value}, RL ν l ys → cleanL l = true → RL ν' l ys
  | _, _, .nil, _ => .nil
  | _, _, .cons v y l ys h h', hc => by
    simp only [cleanL, Bool.and_eq_true] at hc
    exact .cons v y l ys (h.any hc.1) (h'.any hc.2)
theorem RS.any : ∀ {s : Seg} {ys : List Value}, RS ν s ys → s.clean = true → RS ν' s ys
  | _, _, .ints k n xs ys h h', _ => .ints k n xs ys h h'
  | _, _, .fam n g ys h h' h'', hc => by simp [Seg.clean] at hc
  | _, _, .vs l ys h h', hc => .vs l ys (h.any (by simpa [Seg.clean] using hc)) h'
theorem RC.any : ∀ {cs : List Seg} {ys : List Value}, RC ν cs ys → cleanC cs = true → RC ν' cs ys
  | _, _, .nil, _ => .nil
  | _, _, .cons s cs ys zs h h', hc => by
    simp only [cleanC, Bool.and_eq_true] at hc
    exact .cons s cs ys zs (h.any hc.1) (h'.any hc.2)
end

theorem RVn.any {v : V} {y : Value} (hv : RVn nx ν v y) (hc : v.clean = true) : RVn nx' ν' v y := fun _ _ => hv.here.any hc
theorem RLn.any {l : List V} {ys : List Value} (hv : RLn nx ν l ys) (hc : cleanL l = true) : RLn nx' ν' l ys := fun _ _ => (hv ν (Agr.refl _ _)).any hc

/-- a function of plain data: its walk, with no memory at hand, tells its answer -/
theorem SpOk.of_walk (hP : ProgOk P) {E : List (Nat × Sp)} (hE : EnvOk P E) {n g : Nat} {sp : List V → Hp → Bool × V}
    (hw : ∀ args hp, (sp args hp).1 = true → cleanL args = true ∧ (segF P E n g {} args [] 0).sat ⟨fun v _ _ => v.clean = true ∧ v = (sp args hp).2, fun _ _ _ _ => False⟩) : SpOk P g (.pure sp) := by
  intro args ys h nx ν w hargs hh hok
  obtain ⟨h1, h2⟩ := hw args h hok
  refine segF_sound (nx := 0) (ν := fun _ => none) (w := w) hP hE (Nat.le_refl _) (hargs.any h1) (RH.none _ _ _) h2 (fun v h' k ν' y w' hv hA hy _ => ?_) (fun _ _ _ _ _ _ _ _ _ hv => hv.elim)
  obtain ⟨hc, rfl⟩ := hv
  have hB := hA.ext.below
  exact ⟨hy.any hc, hh.below hB, Ext.of_below hB⟩

theorem EnvOk.cons {E : List (Nat × Sp)} (hE : EnvOk P E) {g : Nat} {sp : Sp} (h : SpOk P g sp) : EnvOk P ((g, sp) :: E) := by
  intro g' sp' hl
  simp only [lk] at hl
  cases hb : Nat.beq g g' with
  | true =>
    simp only [hb, cond_true, Option.some.injEq] at hl
    have := Nat.eq_of_beq_eq_true hb
    subst this hl
    exact h
  | false => simp only [hb, cond_false] at hl; exact hE g' sp' hl

/-- a function of nothing that answers a bool -/
def yes : List V → Hp → Bool × V := fun args _ => (args.isEmpty, .b true)

theorem spOk_yes (hP : ProgOk P) {E : List (Nat × Sp)} (hE : EnvOk P E) {n g : Nat} {h' : Hp} {k : Nat} (hw : segF P E n g {} [] [] 0 = .ret (.b true) h' k) : SpOk P g (.pure yes) :=
  SpOk.of_walk hP hE (n := n) fun args hp hok => by
    cases args with
    | cons _ _ => simp [yes] at hok
    | nil => exact ⟨rfl, by rw [hw]; exact ⟨rfl, rfl⟩⟩

end Go.Am
