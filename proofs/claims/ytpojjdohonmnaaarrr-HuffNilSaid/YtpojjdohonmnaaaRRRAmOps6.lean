/-
  A part of an abstract machine that runs a function's text over symbolic values, and of the proof that the machine is sound over the model. No condition.
-/
import Derived.Test.YtpojjdohonmnaaaRRRAmOps5
import Derived.Laws.BytesString
namespace Go.Am
open Go Go.RowKit

variable {P : Program} {nx : Nat} {r : Nat → Prop} {ν : Nm} {h : Hp} {w : World} {ρ : Operand → V} {σ : Operand → Value} {o : Oper}

theorem op_move (hρ : ∀ x, RVn nx ν (ρ x) (σ x)) (hh : RH nx ν h w) {x : Operand} (ho : o.op = .move x ∨ o.op = .assign x) :
    Out P r nx ν h w (execOp σ o) ⟨true, ρ x, h, nx⟩ := by
  rcases ho with ho | ho <;> (simp only [execOp, ho]; exact Out.quiet hh rfl (hρ x))

theorem op_pick (hρ : ∀ x, RVn nx ν (ρ x) (σ x)) (hh : RH nx ν h w) {c a b : Operand} (ho : o.op = .pick c a b)
    (hok : (ev1 P ρ h nx (.pick c a b)).ok = true) : Out P r nx ν h w (execOp σ o) (ev1 P ρ h nx (.pick c a b)) := by
  have hc := hρ c
  simp only [execOp, ho]
  simp only [ev1] at hok ⊢
  generalize ρ c = v at *
  cases v <;> try (simp [bad] at hok; done)
  rename_i t
  rw [hc.of_b]
  cases t
  · exact Out.quiet hh (y := σ b) rfl (hρ b)
  · exact Out.quiet hh (y := σ a) rfl (hρ a)

theorem op_nilCheck (hρ : ∀ x, RVn nx ν (ρ x) (σ x)) (hh : RH nx ν h w) {x : Operand} (ho : o.op = .nilCheck x)
    (hok : (ev1 P ρ h nx (.nilCheck x)).ok = true) : Out P r nx ν h w (execOp σ o) (ev1 P ρ h nx (.nilCheck x)) := by
  have hx := hρ x
  simp only [execOp, ho]
  simp only [ev1] at hok ⊢
  generalize ρ x = v at *
  have hx' := hx
  replace hx := hx.here
  generalize σ x = y at *
  cases hx <;> try (simp [bad] at hok; done)
  · exact Out.quiet hh rfl hx'
  · exact Out.quiet hh rfl hx'

theorem op_unOp (hρ : ∀ x, RVn nx ν (ρ x) (σ x)) (hh : RH nx ν h w) {op : UnOp} {t : TypeId} {x : Operand} (ho : o.op = .unOp op t x)
    (hok : (ev1 P ρ h nx (.unOp op t x)).ok = true) : Out P r nx ν h w (execOp σ o) (ev1 P ρ h nx (.unOp op t x)) := by
  have hx := hρ x
  simp only [execOp, ho]
  simp only [ev1] at hok ⊢
  generalize ρ x = v at *
  replace hx := hx.here
  generalize σ x = y at *
  cases hx <;> cases op <;> try (simp [bad] at hok; done)
  · exact Out.quiet hh rfl (rvn_b _)
  · exact Out.quiet hh rfl (rvn_i _ _)
  · exact Out.quiet hh rfl (rvn_i _ _)

theorem op_makeInterface (hρ : ∀ x, RVn nx ν (ρ x) (σ x)) (hh : RH nx ν h w) {t : TypeId} {x : Operand} (ho : o.op = .makeInterface t x)
    (hok : (ev1 P ρ h nx (.makeInterface t x)).ok = true) : Out P r nx ν h w (execOp σ o) (ev1 P ρ h nx (.makeInterface t x)) := by
  have hx := hρ x
  simp only [execOp, ho]
  simp only [ev1] at hok ⊢
  cases hu : P.underlying t with
  | none => simp [hu, bad] at hok
  | some d =>
    cases d <;> simp only [hu] at hok ⊢ <;> try (simp [bad] at hok; done)
    all_goals (
      refine Out.quiet (y := .iface t (σ x)) hh ?_ (fun ν' ha => .ifc _ _ _ (hx ν' ha))
      simp only [Sem.run_bind, Instr.makeInterface, run_underlying hu, Result.andThen_ok, Sem.run_pure])

theorem rln_map (hρ : ∀ x, RVn nx ν (ρ x) (σ x)) (l : List Operand) : RLn nx ν (l.map ρ) (l.map σ) :=
  fun ν' ha => RL.of_map ρ σ (fun x => hρ x ν' ha) l

theorem op_makeFunc (hρ : ∀ x, RVn nx ν (ρ x) (σ x)) (hh : RH nx ν h w) {fn : Fn} {a b : Array Operand} (ho : o.op = .makeFunc fn a b)
    (hok : (ev1 P ρ h nx (.makeFunc fn a b)).ok = true) : Out P r nx ν h w (execOp σ o) (ev1 P ρ h nx (.makeFunc fn a b)) := by
  simp only [execOp, ho]
  simp only [ev1] at hok ⊢
  cases fn <;> try (simp [bad] at hok; done)
  refine Out.quiet (y := .func (.func _) (a.map σ) (b.map σ)) hh rfl (fun ν' ha => .fn _ _ _ _ _ ?_ ?_)
  · rw [Array.toList_map]; exact rln_map hρ _ ν' ha
  · rw [Array.toList_map]; exact rln_map hρ _ ν' ha

theorem op_extract (hρ : ∀ x, RVn nx ν (ρ x) (σ x)) (hh : RH nx ν h w) {x : Operand} {j : Nat} (ho : o.op = .extract x j)
    (hok : (ev1 P ρ h nx (.extract x j)).ok = true) : Out P r nx ν h w (execOp σ o) (ev1 P ρ h nx (.extract x j)) := by
  have hx := hρ x
  simp only [execOp, ho]
  simp only [ev1] at hok ⊢
  generalize ρ x = v at *
  have hx0 := hx.here
  generalize σ x = y at *
  cases hx0 <;> try (simp [bad] at hok; done)
  rename_i l ys hr
  dsimp only at hok ⊢
  cases hl : l[j]? with
  | none => simp [hl, bad] at hok
  | some v =>
    obtain ⟨y, hy, _⟩ := hr.get j v hl
    rw [Array.getElem?_toList] at hy
    refine Out.quiet (y := y) hh (by simp only [Sem.run_bind, Instr.extract, hy]; rfl) (fun ν' ha => ?_)
    have := hx ν' ha
    cases this with
    | tu _ _ hr' =>
      obtain ⟨y', hy', hv⟩ := hr'.get j v hl
      rw [Array.getElem?_toList, hy] at hy'
      cases hy'; exact hv

/-! addresses -/
theorem addr_add (b o' n : Nat) : Addr.add ⟨b, o', none⟩ n = ⟨b, o' + n, none⟩ := Addr.add_lit b o' n

theorem step_n (P : Program) (e : TypeId) (a : A) (i : Nat) : (step P e a i).n = a.n := by
  unfold step A.addD A.addO; split <;> (try split) <;> (try (cases (Nat.beq (P.cellsOf e) 1))) <;> rfl

theorem step_off (P : Program) (e : TypeId) (a : A) (i : Nat) : (step P e a i).d + (step P e a i).o = a.d + a.o + i * P.cellsOf e := by
  unfold step A.addD A.addO
  split
  · cases hb : Nat.beq (P.cellsOf e) 1 with
    | true => have : P.cellsOf e = 1 := by simpa using hb
              simp [this]; omega
    | false => simp; omega
  · simp; omega

theorem op_fieldAddr (hρ : ∀ x, RVn nx ν (ρ x) (σ x)) (hh : RH nx ν h w) {t : TypeId} {x : Operand} {j : Nat} (ho : o.op = .fieldAddr t x j)
    (hok : (ev1 P ρ h nx (.fieldAddr t x j)).ok = true) : Out P r nx ν h w (execOp σ o) (ev1 P ρ h nx (.fieldAddr t x j)) := by
  have hx := hρ x
  simp only [execOp, ho]
  simp only [ev1] at hok ⊢
  generalize ρ x = v at *
  have hx0 := hx.here
  generalize σ x = y at *
  cases hx0 <;> try (simp [bad] at hok; done)
  rename_i a b sz hν
  unfold fieldsAt at hok ⊢
  cases hu : P.underlying t with
  | none => simp [hu, bad] at hok
  | some d =>
    cases d <;> simp only [hu] at hok ⊢ <;> try (simp [bad] at hok; done)
    rename_i fs
    cases hf : fs[j]? with
    | none => simp [hf, bad] at hok
    | some g =>
      simp only [Array.getElem?_toList, hf] at hok ⊢
      simp only [Bool.and_eq_true, Bool.not_eq_true'] at hok
      obtain ⟨h1, h2⟩ := hok
      have h2 : P.cellsOf g.type ≠ 0 := by intro e; rw [e] at h2; simp at h2
      refine Out.quiet' (y := .pointer (some ⟨b, a.d + a.o + g.offset, none⟩)) hh ?_ (fun ν' ha => ?_)
      · simp only [Sem.run_bind, Instr.fieldAt, run_underlying hu, Result.andThen_ok, hf, Instr.sureAddr, Sem.run_pure, fieldPlace, run_sizeOf h1, if_neg h2, addr_add]
      · have := hx ν' ha
        cases this with
        | p _ b' sz' hν' =>
          have := RV.p (ν := ν') (a.addO g.offset) b sz' hν'
          simpa [A.addO, Nat.add_assoc] using this

theorem op_field (hρ : ∀ x, RVn nx ν (ρ x) (σ x)) (hh : RH nx ν h w) {t : TypeId} {x : Operand} {j : Nat} (ho : o.op = .field t x j)
    (hok : (ev1 P ρ h nx (.field t x j)).ok = true) : Out P r nx ν h w (execOp σ o) (ev1 P ρ h nx (.field t x j)) := by
  have hx := hρ x
  simp only [execOp, ho]
  simp only [ev1] at hok ⊢
  generalize ρ x = v at *
  have hx0 := hx.here
  generalize σ x = y at *
  cases hx0 <;> try (simp [bad] at hok; done)
  rename_i cs ys hc
  unfold fieldsAt at hok ⊢
  cases hu : P.underlying t with
  | none => simp [hu, bad] at hok
  | some d =>
    cases d <;> simp only [hu] at hok ⊢ <;> try (simp [bad] at hok; done)
    rename_i fs
    cases hf : fs[j]? with
    | none => simp [hf, bad] at hok
    | some g =>
      simp only [Array.getElem?_toList, hf] at hok ⊢
      have hcn : RCn nx ν cs ys.toList := fun ν' ha => by have := hx ν' ha; cases this; assumption
      cases hk : aggK P g.type with
      | none => simp [hk, bad] at hok
      | some q =>
        cases q with
        | true =>
          simp only [hk] at hok ⊢
          refine Out.quiet' (y := .agg (ys.extract g.offset (g.offset + P.cellsOf g.type))) hh ?_ (fun ν' ha => .ag _ _ ?_)
          · simp only [Sem.run_bind, Instr.field, run_underlying hu, Result.andThen_ok, hf, asAgg, Sem.run_pure, part, run_isAgg hk, if_true, run_sizeOf (aggK_tyOk hk)]
          · have := RCn_rdR hcn hok ν' ha
            rw [Array.toList_extract, List.extract_eq_take_drop]
            simpa using this
        | false =>
          simp only [hk] at hok ⊢
          obtain ⟨y, hy, _⟩ := rd1_sound g.offset 0 hcn.here hok
          rw [Array.getElem?_toList, Nat.zero_add] at hy
          refine Out.quiet' (y := y) hh ?_ (fun ν' ha => ?_)
          · simp only [Sem.run_bind, Instr.field, run_underlying hu, Result.andThen_ok, hf, asAgg, Sem.run_pure, part, run_isAgg hk, Bool.false_eq_true, if_false, hy]
          · obtain ⟨y', hy', hv⟩ := rd1_sound g.offset 0 (hcn ν' ha) hok
            rw [Array.getElem?_toList, Nat.zero_add, hy] at hy'
            cases hy'; exact hv

theorem op_indexAddr (hρ : ∀ x, RVn nx ν (ρ x) (σ x)) (hh : RH nx ν h w) {t : TypeId} {x ix : Operand} (ho : o.op = .indexAddr t x ix)
    (hok : (ev1 P ρ h nx (.indexAddr t x ix)).ok = true) : Out P r nx ν h w (execOp σ o) (ev1 P ρ h nx (.indexAddr t x ix)) := by
  have hx := hρ x
  have hix := hρ ix
  simp only [execOp, ho]
  simp only [ev1] at hok ⊢
  generalize ρ ix = vi at *
  cases vi <;> try (simp [bad] at hok; done)
  rename_i k j
  rw [hix.of_i]
  generalize ρ x = v at *
  have hx0 := hx.here
  generalize σ x = y at *
  cases hu : P.underlying t with
  | none => simp [hu, bad] at hok
  | some d =>
    -- the address, once it is told
    have fin : ∀ (a : A) (b off : Nat) (e : TypeId), off = a.d + a.o → (∀ ν', Agr nx ν ν' → ∃ sz, ν' a.n = some (some (b, sz))) →
        RVn nx ν (.p (some (step P e a j.toNat))) (.pointer (some ⟨b, off + j.toNat * P.cellsOf e, none⟩)) := by
      intro a b off e hoff hnm ν' ha
      obtain ⟨sz, hs⟩ := hnm ν' ha
      have := RV.p (ν := ν') (step P e a j.toNat) b sz (by rw [step_n]; exact hs)
      rw [step_off] at this
      rw [hoff]; exact this
    cases d <;> simp only [hu] at hok ⊢ <;> try (simp [bad] at hok; done)
    · rename_i e
      cases hx0 <;> try (simp [bad] at hok; done)
      · rename_i a b sz off len cap h1 h2 h3
        simp only [Bool.and_eq_true, decide_eq_true_eq] at hok ⊢
        obtain ⟨⟨q1, q2⟩, q3⟩ := hok
        have q2 : j.toNat + 1 ≤ len := Nat.le_of_ble_eq_true q2
        have hoff : off = a.d + a.o := by omega
        refine Out.quiet' (y := .pointer (some ⟨b, off + j.toNat * P.cellsOf e, none⟩)) hh ?_ (fin a b off e hoff (fun ν' ha => by
          have := hx ν' ha; cases this; exact ⟨_, by assumption⟩))
        simp only [Sem.run_bind, Instr.indexAt, asIntOf, Sem.run_pure, Result.andThen_ok, run_underlying hu]
        rw [if_pos (by omega)]
        simp only [Sem.run_bind, run_sizeOf q3, Result.andThen_ok, addr_add, Sem.run_pure]
      · rename_i a b sz off w' len cap h1 h2 h3 h4
        simp only [Bool.and_eq_true, decide_eq_true_eq] at hok ⊢
        obtain ⟨⟨q1, q2⟩, q3⟩ := hok
        have q2 : j.toNat + 1 ≤ len := Nat.le_of_ble_eq_true q2
        have hoff : off = a.d + a.o := by omega
        refine Out.quiet' (y := .pointer (some ⟨b, off + j.toNat * P.cellsOf e, none⟩)) hh ?_ (fin a b off e hoff (fun ν' ha => by
          have := hx ν' ha; cases this; exact ⟨_, by assumption⟩))
        simp only [Sem.run_bind, Instr.indexAt, asIntOf, Sem.run_pure, Result.andThen_ok, run_underlying hu]
        rw [if_pos (by omega)]
        simp only [Sem.run_bind, run_sizeOf q3, Result.andThen_ok, addr_add, Sem.run_pure]
      · rename_i a w' len h1 h2
        simp only [Bool.and_eq_true, decide_eq_true_eq] at hok
        obtain ⟨⟨q1, q2⟩, q3⟩ := hok
        have q2 : j.toNat + 1 ≤ len := Nat.le_of_ble_eq_true q2
        omega
    · rename_i n e
      cases hx0 <;> try (simp [bad] at hok; done)
      rename_i a b sz h1
      simp only [Bool.and_eq_true, decide_eq_true_eq] at hok ⊢
      obtain ⟨⟨q1, q2⟩, q3⟩ := hok
      have q2 : j.toNat + 1 ≤ n := Nat.le_of_ble_eq_true q2
      refine Out.quiet' (y := .pointer (some ⟨b, a.d + a.o + j.toNat * P.cellsOf e, none⟩)) hh ?_ (fin a b _ e rfl (fun ν' ha => by
          have := hx ν' ha; cases this; exact ⟨_, by assumption⟩))
      simp only [Sem.run_bind, Instr.indexAt, asIntOf, Sem.run_pure, Result.andThen_ok, run_underlying hu, Instr.sureAddr]
      rw [if_pos (by omega)]
      simp only [Sem.run_bind, run_sizeOf q3, Result.andThen_ok, addr_add, Sem.run_pure]

theorem op_sliceToArrayPointer (hρ : ∀ x, RVn nx ν (ρ x) (σ x)) (hh : RH nx ν h w) {t : TypeId} {x : Operand} (ho : o.op = .sliceToArrayPointer t x)
    (hok : (ev1 P ρ h nx (.sliceToArrayPointer t x)).ok = true) : Out P r nx ν h w (execOp σ o) (ev1 P ρ h nx (.sliceToArrayPointer t x)) := by
  have hx := hρ x
  simp only [execOp, ho]
  simp only [ev1] at hok ⊢
  cases hu : P.underlying t with
  | none => simp [hu, bad] at hok
  | some d =>
    cases d <;> simp only [hu] at hok ⊢ <;> try (simp [bad] at hok; done)
    rename_i n e
    generalize ρ x = v at *
    have hx0 := hx.here
    generalize σ x = y at *
    cases hx0 <;> try (simp [bad] at hok; done)
    · rename_i a b sz off len cap h1 h2 h3
      simp only [Bool.and_eq_true, Bool.not_eq_true'] at hok
      obtain ⟨q1, q2⟩ := hok
      have q1 := Nat.le_of_ble_eq_true q1
      have q2 : n ≠ 0 := by intro e'; rw [e'] at q2; simp at q2
      have hoff : off = a.d + a.o := by omega
      refine Out.quiet' (y := .pointer (some ⟨b, off, none⟩)) hh ?_ (fun ν' ha => ?_)
      · simp only [Sem.run_bind, Instr.arrayAt, run_underlying hu, Result.andThen_ok, if_neg (by omega : ¬ len < n), Sem.run_pure]
      · have := hx ν' ha
        cases this with
        | sl _ _ sz' _ _ _ h1' _ _ => rw [hoff]; exact .p _ _ _ h1'
    · rename_i a b sz off w' len cap h1 h2 h3 h4
      simp only [Bool.and_eq_true, Bool.not_eq_true'] at hok
      obtain ⟨q1, q2⟩ := hok
      have q1 := Nat.le_of_ble_eq_true q1
      have q2 : n ≠ 0 := by intro e'; rw [e'] at q2; simp at q2
      have hoff : off = a.d + a.o := by omega
      refine Out.quiet' (y := .pointer (some ⟨b, off, none⟩)) hh ?_ (fun ν' ha => ?_)
      · simp only [Sem.run_bind, Instr.arrayAt, run_underlying hu, Result.andThen_ok, if_neg (by omega : ¬ len < n), Sem.run_pure]
      · have := hx ν' ha
        cases this with
        | sq _ _ sz' _ _ _ _ h1' _ _ _ => rw [hoff]; exact .p _ _ _ h1'
    · simp only [Bool.and_eq_true, Bool.not_eq_true'] at hok
      obtain ⟨q1, q2⟩ := hok
      have q1 := Nat.le_of_ble_eq_true q1
      have q2 : n ≠ 0 := by intro e'; rw [e'] at q2; simp at q2
      omega

/-! slices -/
theorem run_sliceBound {k : IntKind} {i : Int} {y : Nat} (c : BoundsCode) (h : 0 ≤ i ∧ i.toNat ≤ y) (w : World) : (Instr.sliceBound (.int k i) y c).run P w = .ok i.toNat w := by
  simp only [Instr.sliceBound, Sem.run_bind, asIntOf, Sem.run_pure, Result.andThen_ok]
  rw [if_pos (by omega)]; rfl

theorem bnd_sound {len cap : Nat} {lo hi mx : Option V} {lo' hi' mx' : Option Value} (hlo : ∀ v, lo = some v → ∃ y, lo' = some y ∧ RVn nx ν v y) (hlo0 : lo = none → lo' = none)
    (hhi : ∀ v, hi = some v → ∃ y, hi' = some y ∧ RVn nx ν v y) (hhi0 : hi = none → hi' = none)
    (hmx : ∀ v, mx = some v → ∃ y, mx' = some y ∧ RVn nx ν v y) (hmx0 : mx = none → mx' = none) (hok : (bnd len cap lo hi mx).1 = true) (hlc : len ≤ cap) (isSlice : Bool) (w : World) :
    (Instr.sliceBounds isSlice len cap lo' hi' mx').run P w = .ok ((bnd len cap lo hi mx).2.1, (bnd len cap lo hi mx).2.2.1, (bnd len cap lo hi mx).2.2.2) w ∧
      (bnd len cap lo hi mx).2.1 ≤ (bnd len cap lo hi mx).2.2.1 ∧ (bnd len cap lo hi mx).2.2.1 ≤ (bnd len cap lo hi mx).2.2.2 ∧ (bnd len cap lo hi mx).2.2.2 ≤ cap ∧ (mx = none → (bnd len cap lo hi mx).2.2.2 = cap) := by
  unfold bnd at hok ⊢
  have int1 : ∀ {v : V} {k : IntKind} {n : Int} {y : Value}, v = .i k n → RVn nx ν v y → y = .int k n := by intro v k n y e h; subst e; exact h.of_i
  cases mx with
  | none =>
    rw [hmx0 rfl]
    cases hi with
    | none =>
      rw [hhi0 rfl]
      cases lo with
      | none =>
        rw [hlo0 rfl]
        refine ⟨?_, Nat.zero_le _, hlc, Nat.le_refl _, fun _ => rfl⟩
        simp [Instr.sliceBounds]
      | some v =>
        obtain ⟨y, hy, hv⟩ := hlo v rfl
        rw [hy]
        cases v <;> try (simp at hok; done)
        rename_i k l
        rw [hv.of_i]
        simp only [Bool.and_eq_true, decide_eq_true_eq] at hok
        have h2 := Nat.le_of_ble_eq_true hok.2
        refine ⟨?_, h2, hlc, Nat.le_refl _, fun _ => rfl⟩
        simp only [Instr.sliceBounds, Sem.run_bind, Sem.run_pure, Result.andThen_ok, run_sliceBound _ ⟨hok.1, h2⟩]
    | some u =>
      obtain ⟨y, hy, hv⟩ := hhi u rfl
      rw [hy]
      cases u <;> try (simp at hok; done)
      rename_i k u
      rw [hv.of_i]
      cases lo with
      | none =>
        rw [hlo0 rfl]
        simp only [Bool.and_eq_true, decide_eq_true_eq] at hok
        have h2 := Nat.le_of_ble_eq_true hok.2
        refine ⟨?_, Nat.zero_le _, h2, Nat.le_refl _, fun _ => rfl⟩
        simp only [Instr.sliceBounds, Sem.run_bind, Sem.run_pure, Result.andThen_ok, run_sliceBound _ ⟨hok.1, h2⟩]
      | some v =>
        obtain ⟨y2, hy2, hv2⟩ := hlo v rfl
        rw [hy2]
        cases v <;> try (simp at hok; done)
        rename_i k2 l
        rw [hv2.of_i]
        simp only [Bool.and_eq_true, decide_eq_true_eq] at hok
        obtain ⟨⟨⟨a1, a2⟩, a3⟩, a4⟩ := hok
        have a2 := Nat.le_of_ble_eq_true a2
        have a4 := Nat.le_of_ble_eq_true a4
        refine ⟨?_, a4, a2, Nat.le_refl _, fun _ => rfl⟩
        simp only [Instr.sliceBounds, Sem.run_bind, Sem.run_pure, Result.andThen_ok, run_sliceBound _ ⟨a1, a2⟩, run_sliceBound _ ⟨a3, a4⟩]
  | some m =>
    obtain ⟨y0, hy0, hv0⟩ := hmx m rfl
    rw [hy0]
    cases m <;> try (simp at hok; done)
    rename_i k0 m
    rw [hv0.of_i]
    cases hi with
    | none => simp at hok
    | some u =>
      obtain ⟨y, hy, hv⟩ := hhi u rfl
      rw [hy]
      cases u <;> try (simp at hok; done)
      rename_i k u
      rw [hv.of_i]
      cases lo with
      | none =>
        rw [hlo0 rfl]
        simp only [Bool.and_eq_true, decide_eq_true_eq] at hok
        obtain ⟨⟨⟨a1, a2⟩, a3⟩, a4⟩ := hok
        have a2 := Nat.le_of_ble_eq_true a2
        have a4 := Nat.le_of_ble_eq_true a4
        refine ⟨?_, Nat.zero_le _, a4, a2, fun h => by simp at h⟩
        simp only [Instr.sliceBounds, Sem.run_bind, Sem.run_pure, Result.andThen_ok, run_sliceBound _ ⟨a1, a2⟩, run_sliceBound _ ⟨a3, a4⟩]
      | some v =>
        obtain ⟨y2, hy2, hv2⟩ := hlo v rfl
        rw [hy2]
        cases v <;> try (simp at hok; done)
        rename_i k2 l
        rw [hv2.of_i]
        simp only [Bool.and_eq_true, decide_eq_true_eq] at hok
        obtain ⟨⟨⟨⟨⟨a1, a2⟩, a3⟩, a4⟩, a5⟩, a6⟩ := hok
        have a2 := Nat.le_of_ble_eq_true a2
        have a4 := Nat.le_of_ble_eq_true a4
        have a6 := Nat.le_of_ble_eq_true a6
        refine ⟨?_, a6, a4, a2, fun h => by simp at h⟩
        simp only [Instr.sliceBounds, Sem.run_bind, Sem.run_pure, Result.andThen_ok, run_sliceBound _ ⟨a1, a2⟩, run_sliceBound _ ⟨a3, a4⟩, run_sliceBound _ ⟨a5, a6⟩]

end Go.Am
