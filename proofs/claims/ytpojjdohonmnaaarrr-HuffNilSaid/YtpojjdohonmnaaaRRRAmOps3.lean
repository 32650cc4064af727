/-
  A part of an abstract machine that runs a function's text over symbolic values, and of the proof that the machine is sound over the model. No condition.
-/
import Derived.Test.YtpojjdohonmnaaaRRRAmOps2
namespace Go.Am
open Go Go.RowKit

variable {P : Program} {nx : Nat} {r : Nat → Prop} {ν : Nm} {h : Hp} {w : World} {ρ : Operand → V} {σ : Operand → Value} {o : Oper}

theorem range_flat (zc : Array Value) (k len : Nat) (hk : zc.size = k) (hk0 : 0 < k) :
    ((Array.range (len * k)).map (fun i => zc[i % zc.size]!)).toList = (List.replicate len zc.toList).flatten := by
  rw [Array.toList_map, Array.toList_range]
  induction len with
  | zero => simp
  | succ n ih =>
    rw [Nat.succ_mul, List.range_add, List.map_append, ih, List.replicate_succ', List.flatten_append]
    congr 1
    simp only [List.flatten_cons, List.flatten_nil, List.append_nil, List.map_map]
    apply List.ext_getElem?
    intro i
    simp only [List.getElem?_map, List.getElem?_range, Function.comp]
    by_cases hi : i < k
    · have e : (n * k + i) % zc.size = i := by rw [hk, Nat.mul_comm, Nat.mul_add_mod, Nat.mod_eq_of_lt hi]
      rw [List.getElem?_range hi]
      show some (zc[(n * k + i) % zc.size]!) = _
      rw [e, getElem!_pos zc i (by omega), Array.getElem?_toList, Array.getElem?_eq_getElem (by omega)]
    · rw [List.getElem?_eq_none (by simp; omega), Array.getElem?_toList, Array.getElem?_eq_none (by omega)]
      rfl

theorem zrow_run {e : TypeId} {len : Nat} (hz : (zrow P e len).1 = true) (w : World) :
    tyOk P e = true ∧ 0 < P.cellsOf e ∧ ∃ z, (zeroValue e).run P w = .ok z w ∧ z.cells.size = P.cellsOf e ∧
      ∀ ν, RC ν (zrow P e len).2 ((Array.range (len * P.cellsOf e)).map (fun i => z.cells[i % z.cells.size]!)).toList := by
  unfold zrow at hz ⊢
  cases hc : zcells P e with
  | none => simp [hc] at hz
  | some l =>
    simp only [hc, Bool.and_eq_true, Bool.not_eq_true'] at hz ⊢
    obtain ⟨⟨h1, h2⟩, h3⟩ := hz
    have h1 : l.length = P.cellsOf e := by simpa using h1
    have h2 : l.length ≠ 0 := by intro e'; rw [e'] at h2; simp at h2
    obtain ⟨z, g1, g2⟩ := zcells_run hc w
    have hsz : z.cells.size = P.cellsOf e := by rw [← Array.length_toList, g2, h1]
    refine ⟨?_, by omega, z, g1, hsz, fun ν => ?_⟩
    · unfold zcells at hc
      unfold tyOk
      cases hi : P.info? e with
      | none => simp [hi] at hc
      | some i => rfl
    · rw [range_flat z.cells (P.cellsOf e) len hsz (by omega), g2]
      exact mtch_sound h3 ν

theorem op_buildSlice (hρ : ∀ x, RVn nx ν (ρ x) (σ x)) (hh : RH nx ν h w) {t : TypeId} {len : Nat} {parts : Array (Nat × Operand)} (ho : o.op = .buildSlice t len parts)
    (hok : (ev1 P ρ h nx (.buildSlice t len parts)).ok = true) : Out P r nx ν h w (execOp σ o) (ev1 P ρ h nx (.buildSlice t len parts)) := by
  simp only [execOp, ho]
  simp only [ev1] at hok ⊢
  obtain ⟨p1, p2⟩ := parts_sound hρ parts
  cases hu : P.underlying t with
  | none => simp [hu, bad] at hok
  | some d =>
    cases d <;> simp only [hu] at hok ⊢ <;> try (simp [bad] at hok; done)
    rename_i e
    simp only [Bool.and_eq_true] at hok
    obtain ⟨⟨k1, k2⟩, k3⟩ := hok
    have k3 : len * P.cellsOf e ≤ 16777216 := Nat.le_of_ble_eq_true k3
    obtain ⟨hty, hpos, z, z1, z2, z3⟩ := zrow_run k2 w
    have hzero : ∃ zz : Array Value, (if len * P.cellsOf e = 0 then pure #[] else do pure (← zeroValue e).cells : Sem (Array Value)).run P w = .ok zz w ∧
        (Array.range (len * P.cellsOf e)).map (fun i => zz[i % zz.size]!) = (Array.range (len * P.cellsOf e)).map (fun i => z.cells[i % z.cells.size]!) := by
      by_cases h0 : len * P.cellsOf e = 0
      · exact ⟨#[], by rw [if_pos h0]; rfl, by rw [h0]; simp⟩
      · exact ⟨z.cells, by rw [if_neg h0]; simp only [Sem.run_bind, z1, Result.andThen_ok, Sem.run_pure], rfl⟩
    obtain ⟨zz, zz1, zz2⟩ := hzero
    obtain ⟨cs, g1, g2⟩ := fillP_sound (P := P) (nx := nx) (ν := ν) _ _ _ _ ((Array.range (len * P.cellsOf e)).map (fun i => z.cells[i % z.cells.size]!)) p1 p2 (fun ν' _ => z3 ν') k1
    rw [← zz2, Array.toList_map] at g1
    obtain ⟨w', ν', n1, n2, n3, n4, n5, n6⟩ := new_cells (P := P) (r := r) hh e g2
    have hrun : (Instr.buildSlice t len (parts.map fun (i, x) => (i, σ x))).run P w = .ok (.slice (some ⟨w.heap.size, 0, none⟩) len len) w' := by
      simp only [Instr.buildSlice, Sem.run_bind, run_underlying hu, Result.andThen_ok, run_sizeOf hty, Array.toList_map]
      rw [if_neg (by omega)]
      by_cases h0 : len * P.cellsOf e = 0
      · rw [if_pos h0] at zz1 ⊢
        simp only [Sem.run_pure, Result.ok.injEq, and_true] at zz1
        subst zz1
        simp only [Sem.run_bind, Sem.run_pure, Result.andThen_ok, g1, n1]
      · rw [if_neg h0] at zz1 ⊢
        simp only [Sem.run_bind, z1, Result.andThen_ok, Sem.run_pure, Result.ok.injEq, and_true] at zz1
        subst zz1
        simp only [Sem.run_bind, z1, Sem.run_pure, Result.andThen_ok, g1, n1]
    refine ⟨_, .slice (some ⟨w.heap.size, 0, none⟩) len len, w', ν', by simp only [Sem.run_bind, hrun, Result.andThen_ok, Sem.run_pure], .inl rfl, Nat.le_succ _, n4, ?_, n5, n6⟩
    intro ν'' ha
    have hnm : ν'' nx = some (some (w.heap.size, cs.size)) := by rw [ha nx (Nat.lt_succ_self _), n3]
    dsimp only
    cases hb : Nat.beq len 0 with
    | true =>
      have : len = 0 := by simpa using hb
      subst this
      exact RV.sq (ν := ν'') ⟨nx, 0, 0⟩ _ _ 0 _ _ _ hnm (Nat.le_refl _) (.inl rfl) (.inl rfl)
    | false => exact RV.sl (ν := ν'') ⟨nx, 0, 0⟩ _ _ 0 _ _ hnm (Nat.le_refl _) (.inl rfl)

theorem replicate_flat_one {α : Type _} (n : Nat) (y : α) : (List.replicate n [y]).flatten = List.replicate n y := by
  induction n with
  | zero => rfl
  | succ n ih => simp [List.replicate_succ, ih]

theorem replicate_flat {α : Type _} (n k : Nat) (y : α) : (List.replicate n (List.replicate k y)).flatten = List.replicate (n * k) y := by
  induction n with
  | zero => simp
  | succ n ih => simp only [List.replicate_succ, List.flatten_cons, ih]; rw [List.replicate_append_replicate]; congr 1; rw [Nat.succ_mul]; omega

theorem mulw_eq (n k : Nat) : mulw n k = n * k := by
  unfold mulw
  cases hb : Nat.beq k 1 with
  | true => have : k = 1 := by simpa using hb
            subst this; simp
  | false => rfl

theorem wrap_i64 {n : Int} (h0 : 0 ≤ n) (h1 : n ≤ 281474976710656) : IntKind.i64.wrap n = n := by
  simp only [IntKind.wrap, IntKind.bits, IntKind.signed, Bool.true_and]
  split <;> (simp at *; omega)

theorem op_makeSlice (hρ : ∀ x, RVn nx ν (ρ x) (σ x)) (hh : RH nx ν h w) {t : TypeId} {l c : Operand} (ho : o.op = .makeSlice t l c)
    (hok : (ev1 P ρ h nx (.makeSlice t l c)).ok = true) : Out P r nx ν h w (execOp σ o) (ev1 P ρ h nx (.makeSlice t l c)) := by
  have hl := hρ l
  have hc := hρ c
  simp only [execOp, ho]
  simp only [ev1] at hok ⊢
  cases hu : P.underlying t with
  | none => simp [hu, bad] at hok
  | some d =>
    cases d <;> simp only [hu] at hok ⊢ <;> try (simp [bad] at hok; done)
    rename_i e
    generalize ρ l = vl at *
    generalize ρ c = vc at *
    cases vl <;> try (simp [bad] at hok; done)
    cases vc <;> try (simp [bad] at hok; done)
    rename_i k n k' m
    simp only [Bool.and_eq_true, decide_eq_true_eq, Bool.not_eq_true'] at hok ⊢
    obtain ⟨⟨⟨⟨q1, q2⟩, q3⟩, q4⟩, q5⟩ := hok
    have el := hl.of_i
    have ec := hc.of_i
    unfold zone at q2
    cases hz : zcells P e with
    | none => simp [hz] at q2
    | some zl =>
      simp only [hz, Bool.and_eq_true, Bool.not_eq_true'] at q2
      obtain ⟨⟨z1, z2⟩, z3⟩ := q2
      have z1 : zl.length = P.cellsOf e := by simpa using z1
      have z2 : zl.length ≠ 0 := by intro e'; rw [e'] at z2; simp at z2
      obtain ⟨z, g1, g2⟩ := zcells_run hz w
      have hsz : z.cells.size = P.cellsOf e := by rw [← Array.length_toList, g2, z1]
      have hinfo : ∃ i, P.info? e = some i := by
        unfold zcells at hz
        cases hi : P.info? e with
        | none => simp [hi] at hz
        | some i => exact ⟨i, rfl⟩
      obtain ⟨i, hi⟩ := hinfo
      have hty : tyOk P e = true := by simp [tyOk, hi]
      have hby : P.bytesOf e = i.bytes := by simp [Program.bytesOf, hi]
      have hb0 : 0 < i.bytes := by
        rw [hby] at q1
        rcases Nat.eq_zero_or_pos i.bytes with h0 | h0
        · rw [h0] at q1; simp at q1
        · exact h0
      rw [hby] at q5
      have hm : m ≤ 281474976710656 := by
        have : 1 * m ≤ (i.bytes : Int) * m := Int.mul_le_mul_of_nonneg_right (by omega) (by omega)
        omega
      have wn := wrap_i64 q3 (by omega : n ≤ 281474976710656)
      have wm := wrap_i64 (by omega : 0 ≤ m) hm
      -- the cells
      let C : Array Value := (Array.range (m.toNat * P.cellsOf e)).map (fun i => z.cells[i % z.cells.size]!)
      have hC : C.toList = (List.replicate m.toNat zl).flatten := by rw [← g2]; exact range_flat z.cells (P.cellsOf e) m.toNat hsz (by omega)
      have hrel : RCn nx ν (match hom P fuelT e with
          | some k => [.ints k (mulw m.toNat (P.cellsOf e)) (List.replicate (mulw m.toNat (P.cellsOf e)) 0)]
          | none => match P.underlying e with
            | some d => [.fam m.toNat (fun _ => zeroV d)]
            | none => []) C.toList := by
        intro ν' _
        rw [hC]
        cases hh : hom P fuelT e with
        | some kk =>
          simp only [hh] at z3 ⊢
          have := (mtch_sound z3 ν').of_single
          cases this with
          | ints _ _ _ _ _ hy =>
            rw [mulw_eq, hy]
            refine RC.single (.ints _ _ _ _ (by simp) ?_)
            rw [List.map_replicate, List.map_replicate, replicate_flat]
        | none =>
          simp only [hh] at z3 ⊢
          cases hue : P.underlying e with
          | none => simp [hue] at z3
          | some d =>
            simp only [hue] at z3 ⊢
            have := (mtch_sound z3 ν').of_single
            cases this with
            | vs _ _ hr hone =>
              cases hr with
              | cons _ y _ _ hy hr =>
                cases hr
                rw [replicate_flat_one]
                refine RC.single (.fam _ _ _ (by simp) (fun i u hu => ?_) (fun u hu => ?_))
                · have := List.eq_of_mem_replicate (List.mem_of_getElem? hu); subst this; exact hy
                · have := List.eq_of_mem_replicate hu; subst this; exact hone _ (by simp)
      have hzero : ∃ zz : Array Value, (if m.toNat * P.cellsOf e = 0 then pure #[] else do pure (← zeroValue e).cells : Sem (Array Value)).run P w = .ok zz w ∧
          (Array.range (m.toNat * P.cellsOf e)).map (fun i => zz[i % zz.size]!) = C := by
        by_cases h0 : m.toNat * P.cellsOf e = 0
        · exact ⟨#[], by rw [if_pos h0]; rfl, by show _ = Array.map _ _; rw [h0]; simp⟩
        · exact ⟨z.cells, by rw [if_neg h0]; simp only [Sem.run_bind, g1, Result.andThen_ok, Sem.run_pure], rfl⟩
      obtain ⟨zz, zz1, zz2⟩ := hzero
      obtain ⟨w', ν', n1, n2, n3, n4, n5, n6⟩ := new_cells (P := P) (r := r) hh e hrel
      have hrun : (Instr.makeSlice t (σ l) (σ c)).run P w = .ok (.slice (some ⟨w.heap.size, 0, none⟩) n.toNat m.toNat) w' := by
        rw [el, ec]
        simp only [Instr.makeSlice, Sem.run_bind, run_underlying hu, Result.andThen_ok, asInt, asIntOf, Sem.run_pure, typeInfo, run_program, hi, wn, wm]
        rw [if_neg (by simp; omega)]
        simp only [Sem.run_bind, run_askRoom, Result.andThen_ok, run_sizeOf hty]
        by_cases h0 : m.toNat * P.cellsOf e = 0
        · rw [if_pos h0] at zz1 ⊢
          simp only [Sem.run_pure, Result.ok.injEq, and_true] at zz1
          subst zz1
          simp only [Sem.run_bind, Sem.run_pure, Result.andThen_ok, zz2, n1]
        · rw [if_neg h0] at zz1 ⊢
          simp only [Sem.run_bind, g1, Result.andThen_ok, Sem.run_pure, Result.ok.injEq, and_true] at zz1
          subst zz1
          simp only [Sem.run_bind, g1, Sem.run_pure, Result.andThen_ok, zz2, n1]
      refine ⟨_, .slice (some ⟨w.heap.size, 0, none⟩) n.toNat m.toNat, w', ν', by simp only [Sem.run_bind, hrun, Result.andThen_ok, Sem.run_pure], .inl rfl, Nat.le_succ _, n4, ?_, n5, n6⟩
      intro ν'' ha
      have hnm : ν'' nx = some (some (w.heap.size, C.size)) := by rw [ha nx (Nat.lt_succ_self _), n3]
      exact RV.sl (ν := ν'') ⟨nx, 0, 0⟩ _ _ 0 _ _ hnm (by omega) (.inl rfl)

end Go.Am
