/-
  A part of an abstract machine that runs a function's text over symbolic values, and of the proof that the machine is sound over the model. No condition.
-/
import Derived.Test.YtpojjdohonmnaaaRRRAmOps9
namespace Go.Am
open Go Go.RowKit

variable {P : Program} {nx : Nat} {r : Nat → Prop} {ν : Nm} {h : Hp} {w : World} {ρ : Operand → V} {σ : Operand → Value} {o : Oper}

theorem apOk_spec {e : TypeId} (ha : apOk P e = true) : ∃ i, P.info? e = some i ∧ P.cellsOf e = i.size ∧ P.bytesOf e = i.bytes ∧ 0 < i.bytes ∧ 0 < i.size ∧
    ∃ z, i.zero = some z ∧ z.cells.size = i.size := by
  unfold apOk zcells at ha
  cases hi : P.info? e with
  | none => simp [hi] at ha
  | some i =>
    simp only [hi] at ha
    cases hz : i.zero with
    | none => simp [hz] at ha
    | some z =>
      simp only [hz, Option.map_some, Bool.and_eq_true, Bool.not_eq_true'] at ha
      obtain ⟨⟨h1, h2⟩, h3⟩ := ha
      have hc : P.cellsOf e = i.size := by simp [Program.cellsOf, hi]
      have hb : P.bytesOf e = i.bytes := by simp [Program.bytesOf, hi]
      have h1 : z.cells.toList.length = P.cellsOf e := by simpa using h1
      have h2 : z.cells.toList.length ≠ 0 := by intro e'; rw [e'] at h2; simp at h2
      have h3 : P.bytesOf e ≠ 0 := by intro e'; rw [e'] at h3; simp at h3
      refine ⟨i, rfl, hc, hb, by omega, by omega, z, hz, ?_⟩
      rw [← hc, ← h1, Array.length_toList]

theorem run_copy_none {t e : TypeId} (hu : P.underlying t = some (.slice e)) (hty : tyOk P e = true) {ts : Array TypeId} (ht : ts[0]? = some t) {ty : TypeId} {args : Array Value} {z : Value} {n cap m : Nat}
    (h0 : args[0]? = some (.slice none n cap)) (h1 : args[1]? = some z) (hl : (Builtin.lenOf z).run P w = .ok m w) {zs : List Value} (hz : (Builtin.firstCells (P.cellsOf e) (Nat.min m n) z).run P w = .ok zs.toArray w)
    {o' : TypeId} {cs : Array Bool} : (builtin .copy ts o' cs args).run P w = .ok (.value (goInt (Nat.min m n))) w := by
  simp only [builtin, Sem.run_bind, Builtin.copy_, ht, h0, h1, run_underlying hu, Result.andThen_ok, hl, run_sizeOf hty, hz, Sem.run_pure]

theorem run_copy_some {t e : TypeId} (hu : P.underlying t = some (.slice e)) (hty : tyOk P e = true) {ts : Array TypeId} (ht : ts[0]? = some t) {args : Array Value} {z : Value} {a : Addr} {n cap m : Nat}
    (h0 : args[0]? = some (.slice (some a) n cap)) (h1 : args[1]? = some z) (hl : (Builtin.lenOf z).run P w = .ok m w) {zs : List Value} (hz : (Builtin.firstCells (P.cellsOf e) (Nat.min m n) z).run P w = .ok zs.toArray w)
    {w' : World} (hs : (storeCells a zs).run P w = .ok () w') {o' : TypeId} {cs : Array Bool} : (builtin .copy ts o' cs args).run P w = .ok (.value (goInt (Nat.min m n))) w' := by
  simp only [builtin, Sem.run_bind, Builtin.copy_, ht, h0, h1, run_underlying hu, Result.andThen_ok, hl, run_sizeOf hty, hz, List.toList_toArray, hs, Sem.run_pure]

/-- laying cells over a part of a name's block -/
theorem lay_cells (hh : RH nx ν h w) {a : A} {b sz off : Nat} (hν : ν a.n = some (some (b, sz))) {ds : List Seg} (hg : hget h a.n = some ds) (hr : r a.n) {ns : List Seg} {zs : List Value} (hns : RCn nx ν ns zs)
    (hk : (wrR ds a.o a.d ns).1 = true) (hoff : zs = [] ∨ off = a.d + a.o) :
    ∃ w', (storeCells ⟨b, off, none⟩ zs).run P w = .ok () w' ∧ RH nx ν ((a.n, some (wrR ds a.o a.d ns).2) :: h) w' ∧ Ext r ν h w ν ((a.n, some (wrR ds a.o a.d ns).2) :: h) w' := by
  obtain ⟨c, e, fr, ys, hb, hs, hf, hc, us, he⟩ := hh.read hg hν
  have hlen : ys.length ≤ c.size := by rw [← Array.length_toList, he]; simp
  obtain ⟨h1, h2⟩ := wrR_sound a.o a.d hc.here hns.here hk
  have h3 : RCn nx ν (wrR ds a.o a.d ns).2 (ys.take (a.d + a.o) ++ zs ++ ys.drop (a.d + a.o + zs.length)) := fun ν' ha => (wrR_sound a.o a.d (hc ν' ha) (hns ν' ha) hk).2
  obtain ⟨w', g1, g2⟩ := run_storeCells_row (P := P) (o := off) zs 0 w c hb (by rw [hs]; exact hf) (by rcases h1 with h1 | h1 <;> rcases hoff with h4 | h4 <;> first | exact .inl h1 | exact .inl h4 | (right; omega)) hns.here.one
  obtain ⟨g3, g4⟩ := write_blk (r := r) hh hg hr hν (c := (c.toList.take (off + 0) ++ zs ++ c.toList.drop (off + 0 + zs.length)).toArray) e fr hf
    (by simp only [List.size_toArray, List.length_append, List.length_take, List.length_drop, Array.length_toList]
        rcases h1 with h1 | h1 <;> rcases hoff with h4 | h4 <;> (try subst h1) <;> (try subst h4) <;> (try simp only [List.length_nil]) <;> omega)
    (ys := ys.take (a.d + a.o) ++ zs ++ ys.drop (a.d + a.o + zs.length)) (zs := us)
    (by rw [List.toList_toArray, he]
        by_cases h5 : zs = []
        · subst h5; simp
        · have h1 := h1.resolve_left h5
          have h4 := hoff.resolve_left h5
          rw [Nat.add_zero, h4, splice_append_left _ _ _ _ _ h1]) h3 g2.blk g2.old g2.size g2.os g2.tape g2.output
  exact ⟨w', g1, g3, g4⟩

theorem len_zero {m len k : Nat} {zs : List Value} (h : zs.length = Nat.min m len * k) (h0 : len = 0) : zs = [] := by
  subst h0
  have : Nat.min m 0 = 0 := Nat.min_zero m
  rw [this, Nat.zero_mul] at h
  exact List.eq_nil_of_length_eq_zero h

/-- a list that is none is laid anew -/
theorem write_nil (hh : RH nx ν h w) {n : Nat} {cs0 cs : List Seg} (hn0 : hget h n = some cs0) (hν : ν n = some none) (hc : RCn nx ν cs []) :
    RH nx ν ((n, some cs) :: h) w ∧ Ext r ν h w ν ((n, some cs) :: h) w := by
  have key : ∀ m q, hget ((n, some cs) :: h) m = some q → ∃ q', hget h m = some q' ∧ (m ≠ n → q = q') := by
    intro m q hm
    rw [hget_cons] at hm
    split at hm
    · rename_i e1; subst e1; exact ⟨_, hn0, fun h => absurd rfl h⟩
    · exact ⟨_, hm, fun _ => rfl⟩
  refine ⟨⟨fun m q hm => ?_, fun m q b sz hm hb => ?_, fun m q hm hb => ?_, fun m m' q q' b sz sz' hm hm' h1 h2 => ?_⟩,
    rfl, rfl, rfl, Nat.le_refl _, fun _ _ _ => rfl, fun m q b sz hm hr hb => ?_⟩
  · obtain ⟨q', h1, _⟩ := key m q hm; exact hh.lt m q' h1
  · obtain ⟨q', h1, h2⟩ := key m q hm
    have : m ≠ n := by intro e; subst e; rw [hν] at hb; simp at hb
    rw [h2 this]; exact hh.blk m q' b sz h1 hb
  · rw [hget_cons] at hm
    split at hm
    · simp at hm; subst hm; exact hc
    · exact hh.nil m q hm hb
  · obtain ⟨q1, h3, _⟩ := key m q hm
    obtain ⟨q2, h4, _⟩ := key m' q' hm'
    exact hh.inj m m' q1 q2 b sz sz' h3 h4 h1 h2
  · obtain ⟨q', h1, _⟩ := key m q hm; exact .inr ⟨m, q', sz, h1, hr, hb⟩

theorem op_copy (hρ : ∀ x, RVn nx ν (ρ x) (σ x)) (hh : RH nx ν h w) {c : Call} (ho : o.op = .call c) (hb : c.callee = .builtin .copy)
    (hr : ∀ v, (c.args.toList.map ρ).head? = some v → ∀ n ∈ nmOf v, r n)
    (hok : (ev1 P ρ h nx (.call c)).ok = true) : Out P r nx ν h w (execOp σ o) (ev1 P ρ h nx (.call c)) := by
  obtain ⟨cs, hrun⟩ := builtin_run (P := P) ho hb σ w
  refine Out.congr hrun ?_
  simp only [ev1, hb] at hok ⊢
  cases ht : c.argTypes[0]? with
  | none => simp [ht, bad] at hok
  | some t =>
    simp only [ht] at hok ⊢
    cases hl : c.args.toList.map ρ with
    | nil => simp [hl, bad] at hok
    | cons s l =>
      cases l with
      | nil => simp [hl, bad] at hok
      | cons x l =>
        cases l with
        | cons _ _ => simp [hl, bad] at hok
        | nil =>
          simp only [hl] at hok ⊢
          obtain ⟨y, z, hyz, hy, hz⟩ := args_two hρ hl
          have hrs := hr s (by rw [hl]; rfl)
          have hy0 : (c.args.map σ)[0]? = some y := by rw [← Array.getElem?_toList, hyz]; rfl
          have hz0 : (c.args.map σ)[1]? = some z := by rw [← Array.getElem?_toList, hyz]; rfl
          cases hu : P.underlying t with
          | none => simp [hu, bad] at hok
          | some d =>
            cases d <;> simp only [hu] at hok ⊢ <;> try (simp [bad] at hok; done)
            rename_i e
            cases hn : alen s with
            | none => simp [hn, bad] at hok
            | some n =>
              cases hm : alen x with
              | none => simp [hn, hm, bad] at hok
              | some m =>
                simp only [hn, hm] at hok ⊢
                cases hap : apOk P e with
                | false => simp [hap, bad] at hok
                | true =>
                  simp only [hap, Bool.not_true, cond_false] at hok ⊢
                  obtain ⟨i, i1, i2, i3, i4, i5, _⟩ := apOk_spec hap
                  have hty : tyOk P e = true := by simp [tyOk, i1]
                  have hlen := lenOf_run (P := P) hz.here hm w
                  have hy1 := hy.here
                  cases hy1 <;> (try (simp [alen] at hn; done)) <;> (try (simp [bad] at hok; done))
                  · rename_i len cap
                    simp [alen] at hn
                    subst hn
                    dsimp only at hok ⊢
                    obtain ⟨zs, z1, z2, z3⟩ := content_run (P := P) hz hh hm (Nat.min_le_left m len) hok
                    exact ⟨_, .int .i64 (Nat.min m len), w, ν, run_copy_none hu hty ht (ty := o.type) hy0 hz0 hlen z1, .inl rfl, Nat.le_refl _, Agr.refl _ _, rvn_i _ _, hh, Ext.refl _ _ _ _⟩
                  · rename_i a b sz off len cap h1 h2 h3
                    simp [alen] at hn
                    subst hn
                    dsimp only at hok ⊢
                    cases hg : hget h a.n with
                    | none => simp [hg, bad] at hok
                    | some ds =>
                      simp only [hg, Bool.and_eq_true] at hok ⊢
                      obtain ⟨k1, k2⟩ := hok
                      obtain ⟨zs, z1, z2, z3⟩ := content_run (P := P) hz hh hm (Nat.min_le_left m len) k1
                      obtain ⟨w', s1, s2, s3⟩ := lay_cells (P := P) (r := r) (off := off) hh h1 hg (hrs _ (by simp [nmOf])) z2 k2 (by
                        rcases h3 with h3 | h3
                        · exact .inr h3
                        · exact .inl (len_zero z3 (by omega)))
                      exact ⟨_, .int .i64 (Nat.min m len), w', ν, run_copy_some hu hty ht hy0 hz0 hlen z1 s1, .inl rfl, Nat.le_refl _, Agr.refl _ _, rvn_i _ _, s2, s3⟩
                  · rename_i a b sz off w' len cap h1 h2 h3 h4
                    simp [alen] at hn
                    subst hn
                    dsimp only at hok ⊢
                    cases hg : hget h a.n with
                    | none => simp [hg, bad] at hok
                    | some ds =>
                      simp only [hg, Bool.and_eq_true] at hok ⊢
                      obtain ⟨k1, k2⟩ := hok
                      obtain ⟨zs, z1, z2, z3⟩ := content_run (P := P) hz hh hm (Nat.min_le_left m len) k1
                      obtain ⟨w', s1, s2, s3⟩ := lay_cells (P := P) (r := r) (off := off) hh h1 hg (hrs _ (by simp [nmOf])) z2 k2 (by
                        rcases h3 with h3 | h3
                        · exact .inr h3
                        · exact .inl (len_zero z3 (by omega)))
                      exact ⟨_, .int .i64 (Nat.min m len), w', ν, run_copy_some hu hty ht hy0 hz0 hlen z1 s1, .inl rfl, Nat.le_refl _, Agr.refl _ _, rvn_i _ _, s2, s3⟩
                  · rename_i a w' len h1 h2
                    simp [alen] at hn
                    subst hn h2
                    dsimp only at hok ⊢
                    cases hg : hget h a.n with
                    | none => simp [hg, bad] at hok
                    | some ds =>
                      simp only [hg, Bool.and_eq_true] at hok ⊢
                      obtain ⟨k1, k2⟩ := hok
                      obtain ⟨zs, z1, z2, z3⟩ := content_run (P := P) hz hh hm (Nat.min_le_left m 0) k1
                      have z0 := len_zero z3 rfl
                      subst z0
                      have hnil := hh.nil _ _ hg h1
                      obtain ⟨g1, g2⟩ := write_nil (r := r) hh hg h1 (cs := (wrR ds a.o a.d (contentN h (P.cellsOf e) (Nat.min m 0) x).2).2) (fun ν' ha => by
                        have := (wrR_sound a.o a.d (hnil ν' ha) (z2 ν' ha) k2).2
                        simp only [List.take_nil, List.drop_nil, List.append_nil] at this
                        exact this)
                      exact ⟨_, .int .i64 (Nat.min m 0), w, ν, run_copy_none hu hty ht (ty := o.type) hy0 hz0 hlen z1, .inl rfl, Nat.le_refl _, Agr.refl _ _, rvn_i _ _, g1, g2⟩

/-! append -/
theorem apArg_cases {ts : Array TypeId} (ha : apArg P ts = true) : ts[1]? = none ∨ ∃ t d, ts[1]? = some t ∧ P.underlying t = some d ∧ ∀ k, d ≠ .int k := by
  unfold apArg at ha
  cases ht : ts[1]? with
  | none => exact .inl rfl
  | some t =>
    right
    simp only [ht] at ha
    cases hu : P.underlying t with
    | none => simp [hu] at ha
    | some d =>
      simp only [hu] at ha
      refine ⟨t, d, rfl, hu, fun k e => ?_⟩
      subst e; simp at ha

theorem run_append_in {t e : TypeId} (hu : P.underlying t = some (.slice e)) (hty : tyOk P e = true) {ts : Array TypeId} (ht : ts[0]? = some t) (ha : apArg P ts = true) {args : Array Value} {z : Value} {base : Option Addr} {len cap n : Nat}
    (h0 : args[0]? = some (.slice base len cap)) (h1 : args[1]? = some z) (hl : (Builtin.lenOf z).run P w = .ok n w) {zs : List Value} (hz : (Builtin.firstCells (P.cellsOf e) n z).run P w = .ok zs.toArray w)
    (hfit : len + n ≤ cap) {w' : World} (hs : (match base with | some a => storeCells (a.add (len * P.cellsOf e)) zs | none => pure () : Sem Unit).run P w = .ok () w') {o' : TypeId} {cs : Array Bool} :
    (builtin .append ts o' cs args).run P w = .ok (.value (.slice base (len + n) cap)) w' := by
  have fin : ∀ s : Sem Value, (s.run P w = .ok (.slice base (len + n) cap) w') → (s.run P w).andThen (fun a w' => (pure (Next.value a) : Sem Next).run P w') = .ok (.value (.slice base (len + n) cap)) w' := by
    intro s h; rw [h]; rfl
  simp only [builtin, Sem.run_bind]
  refine fin _ ?_
  rcases apArg_cases ha with hn | ⟨t2, d2, hn, hu2, hk⟩
  · simp only [Builtin.append_, ht, h0, h1, Sem.run_bind, run_underlying hu, Result.andThen_ok, run_sizeOf hty, hn, Sem.run_pure, Bool.false_eq_true, if_false, hl]
    rw [if_pos hfit]
    cases base with
    | none =>
      simp only [Sem.run_pure, Result.ok.injEq, true_and] at hs
      subst hs
      simp only [Bool.not_false, if_true, Sem.run_bind, hz, Result.andThen_ok, Sem.run_pure]
    | some a =>
      dsimp only at hs
      simp only [Bool.not_false, if_true, Sem.run_bind, hz, Result.andThen_ok, hs, Sem.run_pure]
  ·
    simp only [Builtin.append_, ht, h0, h1, Sem.run_bind, run_underlying hu, Result.andThen_ok, run_sizeOf hty, hn, run_underlying hu2, Sem.run_pure]
    rw [if_neg (by simp)]
    simp only [Sem.run_bind, hl, Result.andThen_ok]
    rw [if_pos hfit]
    cases base with
    | none =>
      simp only [Sem.run_pure, Result.ok.injEq, true_and] at hs
      subst hs
      simp only [Bool.not_false, if_true, Sem.run_bind, hz, Result.andThen_ok, Sem.run_pure]
    | some a =>
      dsimp only at hs
      simp only [Bool.not_false, if_true, Sem.run_bind, hz, Result.andThen_ok, hs, Sem.run_pure]

theorem arr_eq (us zs : List Value) (A : Array Value) : us.toArray ++ zs.toArray ++ A = (us ++ zs ++ A.toList).toArray := by
  apply Array.ext'; simp

theorem run_append_out {t e : TypeId} (hu : P.underlying t = some (.slice e)) (hap : apOk P e = true) {ts : Array TypeId} (ht : ts[0]? = some t) (ha : apArg P ts = true) {args : Array Value} {z : Value} {base : Option Addr} {len cap n : Nat}
    (h0 : args[0]? = some (.slice base len cap)) (h1 : args[1]? = some z) (hl : (Builtin.lenOf z).run P w = .ok n w)
    (hfit : cap < len + n) (hroom : apFit P e (len + n) = true) :
    ∃ newCap : Nat, len + n ≤ newCap ∧ ∃ rest : List Value, rest.length = (newCap - (len + n)) * P.cellsOf e ∧
    ∀ (us zs : List Value), (Builtin.firstCells (P.cellsOf e) len (.slice base len cap)).run P { w with drawn := w.drawn + 1 } = .ok us.toArray { w with drawn := w.drawn + 1 } → (Builtin.firstCells (P.cellsOf e) n z).run P { w with drawn := w.drawn + 1 } = .ok zs.toArray { w with drawn := w.drawn + 1 } → ∀ (o' : TypeId) (cs : Array Bool),
    (builtin .append ts o' cs args).run P w = .ok (.value (.slice (some ⟨w.heap.size, 0, none⟩) (len + n) newCap)) ({ w with drawn := w.drawn + 1 }.alloc (.cells (us ++ zs ++ rest).toArray e)) := by
  obtain ⟨i, i1, i2, i3, i4, i5, zz, i6, i7⟩ := apOk_spec hap
  have hty : tyOk P e = true := by simp [tyOk, i1]
  have hroom : (len + n) * i.bytes ≤ 140737488355328 := by rw [← i3]; exact Nat.le_of_ble_eq_true hroom
  have hnext := growslice_fits (bytes := i.bytes) hfit hroom
  have hzero : ∀ w, (zeroValue e).run P w = .ok zz w := fun w => by simp [zeroValue, typeInfo, i1, i6]
  have hq : ∀ m, (Question.appendCap (len + n) cap e).cut m = len + n + m % (2 ^ 63 - (len + n)) := fun m => rfl
  refine ⟨len + n + w.tape w.drawn (.appendCap (len + n) cap e) % (2 ^ 63 - (len + n)), Nat.le_add_right _ _, (Builtin.zeroCells zz.cells (len + n + w.tape w.drawn (.appendCap (len + n) cap e) % (2 ^ 63 - (len + n)) - (len + n))).toList, ?_, ?_⟩
  · simp [Builtin.zeroCells, i7, i2]
  · intro us zs hus hzs o' cs
    have fin : ∀ (s : Sem Value) (y : Value) (w' : World), (s.run P w = .ok y w') → (s.run P w).andThen (fun a w' => (pure (Next.value a) : Sem Next).run P w') = .ok (.value y) w' := by
      intro s y w' h; rw [h]; rfl
    simp only [builtin, Sem.run_bind]
    refine fin _ _ _ ?_
    have hfit' : ¬ len + n ≤ cap := by omega
    have hb0 : ¬ i.bytes = 0 := by omega
    have hnx : ¬ Builtin.nextslicecap (len + n) cap * i.bytes > 2 ^ 48 := by omega
    rcases apArg_cases ha with hn | ⟨t2, d2, hn, hu2, hk⟩
    · simp only [Builtin.append_, ht, h0, h1, Sem.run_bind, run_underlying hu, Result.andThen_ok, run_sizeOf hty, hn, Sem.run_pure, Bool.false_eq_true, if_false, hl]
      rw [if_neg hfit']
      simp only [Sem.run_bind, typeInfo, run_program, Result.andThen_ok, i1, Sem.run_pure]
      rw [if_neg (by simp [hb0])]
      simp only [Sem.run_bind, run_program, Result.andThen_ok, i1, Sem.run_pure]
      rw [if_neg hnx]
      simp only [Sem.run_bind, run_choose, Question.forced, Bool.false_eq_true, if_false, Result.andThen_ok, run_askRoom, hus, hzs, Bool.not_false, if_true, hzero, newRow, run_newObj, Sem.run_pure, hq, run_program, i1]
      rw [arr_eq]; rfl
    · simp only [Builtin.append_, ht, h0, h1, Sem.run_bind, run_underlying hu, Result.andThen_ok, run_sizeOf hty, hn, run_underlying hu2, Sem.run_pure]
      rw [if_neg (by simp)]
      simp only [Sem.run_bind, hl, Result.andThen_ok]
      rw [if_neg hfit']
      simp only [Sem.run_bind, typeInfo, run_program, Result.andThen_ok, i1, Sem.run_pure]
      rw [if_neg (by simp [hb0])]
      simp only [Sem.run_bind, run_program, Result.andThen_ok, i1, Sem.run_pure]
      rw [if_neg hnx]
      simp only [Sem.run_bind, run_choose, Question.forced, Bool.false_eq_true, if_false, Result.andThen_ok, run_askRoom, hus, hzs, Bool.not_false, if_true, hzero, newRow, run_newObj, Sem.run_pure, hq, run_program, i1]
      rw [arr_eq]; rfl

/-- a name's block (or none) goes on under a new name -/
theorem rename_blk {h : Hp} (hh : RH nx ν h w) {n : Nat} {cs0 cs : List Seg} (hn0 : hget h n = some cs0) (hr : r n) {w' : World} (hsz : w'.heap.size = w.heap.size)
    (ho : w'.os = w.os) (ht : w'.tape = w.tape) (hu : w'.output = w.output)
    (hold : ∀ k, (∀ b sz, ν n = some (some (b, sz)) → k ≠ b) → w'.heap[k]? = w.heap[k]?)
    (hblk : ∀ b sz, ν n = some (some (b, sz)) → ∃ c e fr, w'.heap[b]? = some (.cells c e fr) ∧ c.size = sz ∧ Free fr sz ∧ ∃ ys zs, c.toList = ys ++ zs ∧ RCn nx ν cs ys)
    (hnil : ν n = some none → RCn nx ν cs []) :
    RH (nx + 1) (setNm ν nx (ν n)) ((nx, some cs) :: (n, none) :: h) w' ∧ Ext r ν h w (setNm ν nx (ν n)) ((nx, some cs) :: (n, none) :: h) w' ∧ Agr nx ν (setNm ν nx (ν n)) := by
  have ha : Agr nx ν (setNm ν nx (ν n)) := setNm_agr _ _ _
  have hsame : setNm ν nx (ν n) nx = ν n := setNm_same _ _ _
  have hlt := hh.lt n cs0 hn0
  have key : ∀ m q, hget ((nx, some cs) :: (n, none) :: h) m = some q → (m = nx ∧ q = cs) ∨ (m ≠ n ∧ m ≠ nx ∧ hget h m = some q) := by
    intro m q hm
    rw [hget_cons] at hm
    split at hm
    · rename_i e; simp at hm; exact .inl ⟨e.symm, hm.symm⟩
    · rename_i e
      rw [hget_cons] at hm
      split at hm
      · simp at hm
      · rename_i e2; exact .inr ⟨fun e3 => e2 e3.symm, fun e3 => e e3.symm, hm⟩
  have hne : ∀ m q b sz sz', m ≠ n → hget h m = some q → ν m = some (some (b, sz)) → ν n ≠ some (some (b, sz')) := by
    intro m q b sz sz' h1 h2 h3 h4
    exact h1 (hh.inj m n q cs0 b sz sz' h2 hn0 h3 h4)
  refine ⟨⟨fun m q hm => ?_, fun m q b sz hm hν => ?_, fun m q hm hν => ?_, fun m m' q q' b sz sz' hm hm' h1 h2 => ?_⟩, ⟨ho, ht, hu, by omega, fun b hb hnn => hold b (fun b' sz hν e => ?_), fun m q b sz hm hr' hν => ?_⟩, ha⟩
  · rcases key m q hm with ⟨rfl, _⟩ | ⟨_, _, h1⟩
    · omega
    · have := hh.lt m q h1; omega
  · rcases key m q hm with ⟨rfl, rfl⟩ | ⟨g1, g2, h1⟩
    · rw [hsame] at hν
      obtain ⟨c, e, fr, h1, h2, h3, ys, zs, h4, h5⟩ := hblk b sz hν
      exact ⟨c, e, fr, h1, h2, h3, ys, zs, h4, h5.mono ha (by omega)⟩
    · have hml := hh.lt m q h1
      rw [ha m hml] at hν
      obtain ⟨c, e, fr, h3, h4, h5, ys, zs, h6, h7⟩ := hh.blk m q b sz h1 hν
      refine ⟨c, e, fr, ?_, h4, h5, ys, zs, h6, h7.mono ha (by omega)⟩
      rw [hold b (fun b' sz' hb' e' => by subst e'; exact hne m q b sz sz' g1 h1 hν hb')]; exact h3
  · rcases key m q hm with ⟨rfl, rfl⟩ | ⟨g1, g2, h1⟩
    · rw [hsame] at hν
      exact (hnil hν).mono ha (by omega)
    · have hml := hh.lt m q h1
      rw [ha m hml] at hν
      exact (hh.nil m q h1 hν).mono ha (by omega)
  · rcases key m q hm with ⟨rfl, rfl⟩ | ⟨g1, g2, k1⟩ <;> rcases key m' q' hm' with ⟨rfl, rfl⟩ | ⟨g3, g4, k2⟩
    · rfl
    · rw [hsame] at h1
      rw [ha m' (hh.lt m' q' k2)] at h2
      exact absurd h1 (hne m' q' b sz' sz g3 k2 h2)
    · rw [hsame] at h2
      rw [ha m (hh.lt m q k1)] at h1
      exact absurd h2 (hne m q b sz sz' g1 k1 h1)
    · rw [ha m (hh.lt m q k1)] at h1
      rw [ha m' (hh.lt m' q' k2)] at h2
      exact hh.inj m m' q q' b sz sz' k1 k2 h1 h2
  · subst e; exact hnn n cs0 sz hn0 hr hν
  · rcases key m q hm with ⟨rfl, rfl⟩ | ⟨g1, g2, h1⟩
    · rw [hsame] at hν
      exact .inr ⟨n, cs0, sz, hn0, hr, hν⟩
    · rw [ha m (hh.lt m q h1)] at hν
      exact .inr ⟨m, q, sz, h1, hr', hν⟩

theorem tomb_drop {h : Hp} {n : Nat} : ∀ m q, hget ((n, none) :: h) m = some q → hget h m = some q := by
  intro m q hm
  rw [hget_cons] at hm
  split at hm
  · simp at hm
  · exact hm

/-- a list that grows into a new block -/
theorem grow_new (hh : RH nx ν h w) {e : TypeId} (hap : apOk P e = true) {old new : List Seg} {us zs rest : List Value} {need newCap : Nat} (hold : RCn nx ν old us) (hnew : RCn nx ν new zs)
    (hus : us.length + zs.length = need * P.cellsOf e) (hc : need ≤ newCap) (hrest : rest.length = (newCap - need) * P.cellsOf e) :
    let w' := ({ w with drawn := w.drawn + 1 } : World).alloc (.cells (us ++ zs ++ rest).toArray e)
    ∃ ν', RH (nx + 1) ν' ((nx, some (join old new)) :: h) w' ∧ Ext r ν h w ν' ((nx, some (join old new)) :: h) w' ∧ Agr nx ν ν' ∧
      RVn (nx + 1) ν' (.sq ⟨nx, 0, 0⟩ (P.cellsOf e) need) (.slice (some ⟨w.heap.size, 0, none⟩) need newCap) := by
  intro w'
  obtain ⟨g1, g2, g3⟩ := alloc_new (r := r) hh (cs := join old new) (c := (us ++ zs ++ rest).toArray) e (0, 0) (free_zero _) (ys := us ++ zs) (zs := rest) (by simp)
    (fun ν' ha => join_sound (hold ν' ha) (hnew ν' ha)) (w' := w') rfl rfl rfl rfl
  refine ⟨_, g1, g2, g3, fun ν'' ha => ?_⟩
  have hnm : ν'' nx = some (some (w.heap.size, (us ++ zs ++ rest).toArray.size)) := by rw [ha nx (Nat.lt_succ_self _)]; exact setNm_same _ _ _
  have hsz : (us ++ zs ++ rest).toArray.size = newCap * P.cellsOf e := by
    simp only [List.size_toArray, List.length_append]
    rw [hus, hrest, ← Nat.add_mul]
    congr 1; omega
  exact .sq ⟨nx, 0, 0⟩ _ _ 0 _ _ _ hnm hc (.inl rfl) (.inr (by rw [hsz]; omega))

end Go.Am
