/-
  A part of an abstract machine that runs a function's text over symbolic values, and of the proof that the machine is sound over the model. No condition.
-/
import Derived.Test.YtpojjdohonmnaaaRRRAmOps
import Derived.Laws.MakeOwn
namespace Go.Am
open Go Go.RowKit

variable {P : Program} {nx : Nat} {r : Nat → Prop} {ν : Nm} {h : Hp} {w : World}

theorem vM_sound {v : V} {y : Value} (hv : vM v y = true) (ν : Nm) : RV ν v y ∧ y.oneCell' = true := by
  unfold vM at hv
  split at hv <;> first | (simp at hv; done) | skip
  all_goals (refine ⟨?_, rfl⟩)
  · simp at hv; subst hv; exact .b _
  · simp only [Bool.and_eq_true, decide_eq_true_eq] at hv; obtain ⟨h1, rfl⟩ := hv; obtain rfl := kEq_eq h1; exact .i _ _
  · refine .s _ _ ?_
    have := List.isEmpty_iff.1 hv; simp [this]
  · exact .pn
  · simp at hv; obtain ⟨rfl, rfl⟩ := hv; exact .sln _ _
  · exact .mpn
  · exact .nf
  · exact .ni

theorem intsM_sound {k : IntKind} : ∀ {xs : List Int} {ys zs : List Value}, intsM k xs ys = some zs → ys = xs.map (Value.int k) ++ zs
  | [], ys, zs, h => by simp [intsM] at h; simp [h]
  | x :: xs, ys, zs, h => by
    cases ys with
    | nil => simp [intsM] at h
    | cons y ys =>
      cases y <;> simp only [intsM] at h <;> try (cases h; done)
      rename_i k' y
      cases hc : (kEq k k' && decide (x = y)) with
      | false => simp [hc] at h
      | true =>
        simp only [hc, cond_true] at h
        simp only [Bool.and_eq_true, decide_eq_true_eq] at hc
        obtain ⟨h1, rfl⟩ := hc
        obtain rfl := kEq_eq h1
        simp [intsM_sound h]

theorem vsM_sound : ∀ {vs : List V} {ys zs : List Value}, vsM vs ys = some zs → ∃ us, ys = us ++ zs ∧ (∀ ν, RL ν vs us) ∧ ∀ y ∈ us, y.oneCell' = true
  | [], ys, zs, h => by simp [vsM] at h; exact ⟨[], by simp [h], fun _ => .nil, by simp⟩
  | v :: vs, ys, zs, h => by
    cases ys with
    | nil => simp [vsM] at h
    | cons y ys =>
      simp only [vsM] at h
      cases hc : vM v y with
      | false => simp [hc] at h
      | true =>
        simp only [hc, cond_true] at h
        obtain ⟨us, h1, h2, h3⟩ := vsM_sound h
        refine ⟨y :: us, by simp [h1], fun ν => .cons _ _ _ _ (vM_sound hc ν).1 (h2 ν), ?_⟩
        intro u hu
        rcases List.mem_cons.1 hu with rfl | hu
        · exact (vM_sound hc (fun _ => none)).2
        · exact h3 u hu

theorem mtch_sound : ∀ {cs : List Seg} {ys : List Value}, mtch cs ys = true → ∀ ν, RC ν cs ys
  | [], ys, h, ν => by
    have := List.isEmpty_iff.1 (by simpa [mtch] using h); subst this; exact .nil
  | .ints k n xs :: r, ys, h, ν => by
    simp only [mtch, Bool.and_eq_true] at h
    obtain ⟨h1, h2⟩ := h
    cases hi : intsM k xs ys with
    | none => simp [hi] at h2
    | some zs =>
      simp only [hi] at h2
      rw [intsM_sound hi]
      exact .cons _ _ _ _ (.ints _ _ _ _ (by simpa using h1) rfl) (mtch_sound h2 ν)
  | .vs l :: r, ys, h, ν => by
    simp only [mtch] at h
    cases hi : vsM l ys with
    | none => simp [hi] at h
    | some zs =>
      simp only [hi] at h
      obtain ⟨us, h1, h2, h3⟩ := vsM_sound hi
      rw [h1]
      exact .cons _ _ _ _ (.vs _ _ (h2 ν) h3) (mtch_sound h ν)
  | .fam _ _ :: _, ys, h, ν => by simp [mtch] at h

theorem zcells_run {t : TypeId} {l : List Value} (hz : zcells P t = some l) (w : World) : ∃ z, (zeroValue t).run P w = .ok z w ∧ z.cells.toList = l := by
  unfold zcells at hz
  cases hi : P.info? t with
  | none => simp [hi] at hz
  | some i =>
    simp only [hi] at hz
    cases hzz : i.zero with
    | none => simp [hzz] at hz
    | some z =>
      simp [hzz] at hz
      exact ⟨z, by simp [zeroValue, typeInfo, hi, hzz], hz⟩

theorem zok_run {t : TypeId} (hz : zok P t = true) (w : World) : ∃ z, (zeroValue t).run P w = .ok z w ∧ ∀ ν, RC ν (zsegs P fuelT t) z.cells.toList := by
  unfold zok at hz
  cases hc : zcells P t with
  | none => simp [hc] at hz
  | some l =>
    simp only [hc] at hz
    obtain ⟨z, h1, h2⟩ := zcells_run hc w
    exact ⟨z, h1, fun ν => by rw [h2]; exact mtch_sound hz ν⟩

theorem free_zero (n : Nat) : Free (0, 0) n := fun i _ => by simp

/-- a new variable -/
theorem new_cells (hh : RH nx ν h w) {cs : List Seg} {c : Array Value} (e : TypeId) (hcs : RCn nx ν cs c.toList) :
    ∃ w' ν', (newRow e c).run P w = .ok ⟨w.heap.size, 0, none⟩ w' ∧ w' = w.alloc (.cells c e) ∧ ν' nx = some (some (w.heap.size, c.size)) ∧ Agr nx ν ν' ∧ RH (nx + 1) ν' ((nx, some cs) :: h) w' ∧ Ext r ν h w ν' ((nx, some cs) :: h) w' := by
  obtain ⟨g1, g2, g3⟩ := alloc_new (r := r) hh (cs := cs) (c := c) e (0, 0) (free_zero _) (ys := c.toList) (zs := []) (by simp) hcs (w' := w.alloc (.cells c e)) rfl rfl rfl rfl
  exact ⟨_, _, by simp only [newRow, Sem.run_bind, run_newObj, Result.andThen_ok, Sem.run_pure]; rfl, rfl, setNm_same _ _ _, g3, g1, g2⟩

theorem rvn_new {ν' : Nm} {b sz : Nat} (hs : ν' nx = some (some (b, sz))) : RVn (nx + 1) ν' (.p (some ⟨nx, 0, 0⟩)) (.pointer (some ⟨b, 0, none⟩)) := by
  intro ν'' ha
  have := RV.p (ν := ν'') ⟨nx, 0, 0⟩ b sz (by show ν'' nx = _; rw [ha nx (by omega), hs])
  exact this

theorem op_alloc {ρ : Operand → V} {σ : Operand → Value} {o : Oper} (hh : RH nx ν h w) {t : TypeId} (ho : o.op = .alloc t)
    (hok : (ev1 P ρ h nx (.alloc t)).ok = true) : Out P r nx ν h w (execOp σ o) (ev1 P ρ h nx (.alloc t)) := by
  simp only [execOp, ho]
  simp only [ev1] at hok ⊢
  obtain ⟨z, h1, h2⟩ := zok_run hok w
  obtain ⟨w', ν', g1, _, g2, g3, g4, g5⟩ := new_cells (P := P) (r := r) hh t (fun ν' _ => h2 ν')
  refine ⟨_, _, w', ν', ?_, .inl rfl, Nat.le_succ _, g3, rvn_new g2, g4, g5⟩
  simp only [Sem.run_bind, Instr.alloc, h1, Result.andThen_ok, newVar, g1, Sem.run_pure]

theorem rc_one {ν : Nm} {v : V} {y : Value} (hv : RV ν v y) (h1 : y.oneCell' = true) : RC ν [.vs [v]] [y] :=
  RC.single (.vs _ _ (.cons _ _ _ _ hv .nil) (by intro u hu; simp at hu; subst hu; exact h1))

theorem boxed {v : V} {y : Value} (hv : RVn nx ν v y) (hb : boxable v = true) : RCn nx ν (segsOf v) y.cells.toList := by
  intro ν' ha
  have hv := hv ν' ha
  have hv' := hv
  cases hv with
  | dk => simp [boxable] at hb
  | tu => simp [boxable] at hb
  | ag cs ys hc => exact hc
  | i k n => exact RC.single (.ints _ _ _ _ rfl rfl)
  | _ => exact rc_one hv' rfl

theorem op_box {ρ : Operand → V} {σ : Operand → Value} {o : Oper} (hρ : ∀ x, RVn nx ν (ρ x) (σ x)) (hh : RH nx ν h w) {t : TypeId} {x : Operand} (ho : o.op = .box t x)
    (hok : (ev1 P ρ h nx (.box t x)).ok = true) : Out P r nx ν h w (execOp σ o) (ev1 P ρ h nx (.box t x)) := by
  simp only [execOp, ho]
  simp only [ev1] at hok ⊢
  obtain ⟨w', ν', g1, _, g2, g3, g4, g5⟩ := new_cells (P := P) (r := r) hh t (boxed (hρ x) hok)
  refine ⟨_, _, w', ν', ?_, .inl rfl, Nat.le_succ _, g3, rvn_new g2, g4, g5⟩
  simp only [Sem.run_bind, Instr.box, Result.andThen_ok, newVar, g1, Sem.run_pure]

/-! build -/
theorem foldl_set (vs : List Value) : ∀ (cs : Array Value) (off i : Nat), off + i + vs.length ≤ cs.size →
    ((vs.zipIdx i).foldl (fun cs (c, j) => cs.setIfInBounds (off + j) c) cs).toList = cs.toList.take (off + i) ++ vs ++ cs.toList.drop (off + i + vs.length) := by
  induction vs with
  | nil => intro cs off i h; simp
  | cons v vs ih =>
    intro cs off i h
    simp only [List.zipIdx_cons, List.foldl_cons]
    have h' : off + i + (vs.length + 1) ≤ cs.size := by simpa using h
    rw [ih _ off (i + 1) (by simp; omega), Array.toList_setIfInBounds, List.drop_set_of_lt (by omega), ← Nat.add_assoc, List.take_succ_eq_append_getElem (by simp; omega), List.take_set_of_le (by omega)]
    simp only [List.getElem_set_self, List.append_assoc, List.cons_append, List.length_cons, List.nil_append]
    rw [show off + i + 1 + vs.length = off + i + (vs.length + 1) by omega]

theorem foldl_set_array (vs cs : Array Value) (off : Nat) (h : off + vs.size ≤ cs.size) :
    (vs.zipIdx.foldl (fun cs (c, j) => cs.setIfInBounds (off + j) c) cs).toList = cs.toList.take off ++ vs.toList ++ cs.toList.drop (off + vs.size) := by
  have := foldl_set vs.toList cs off 0 (by simpa using h)
  rw [← Array.foldl_toList, Array.toList_zipIdx]
  simpa using this

theorem fillP_sound (place : Nat → Option (Nat × Nat)) : ∀ (parts : List (Nat × V)) (parts' : List (Nat × Value)) (cs : List Seg) (ys : Array Value),
    parts.map (·.1) = parts'.map (·.1) → (∀ (i : Nat) (p : Nat × V) (p' : Nat × Value), parts[i]? = some p → parts'[i]? = some p' → RVn nx ν p.2 p'.2) → RCn nx ν cs ys.toList →
    (fillP P place cs parts).1 = true → ∃ zs, Instr.fill place ys parts' = some zs ∧ RCn nx ν (fillP P place cs parts).2 zs.toList
  | [], parts', cs, ys, hm, hp, hc, hok => by
    cases parts' with
    | nil => exact ⟨ys, rfl, hc⟩
    | cons a l => simp at hm
  | (i, v) :: parts, parts', cs, ys, hm, hp, hc, hok => by
    cases parts' with
    | nil => simp at hm
    | cons p' parts' =>
      obtain ⟨i', y⟩ := p'
      simp only [List.map_cons, List.cons.injEq] at hm
      obtain ⟨rfl, hm⟩ := hm
      have hv : RVn nx ν v y := hp 0 _ _ rfl rfl
      have ef : fillP P place cs ((i, v) :: parts) = match place i with
        | none => (false, [])
        | some (off, size) =>
          bif (putP cs off v).1 && Nat.beq (lenC (segsOf v)) size && !Nat.beq size 0 then
            fillP P place (putP cs off v).2 parts else (false, []) := rfl
      rw [ef] at hok ⊢
      simp only [Instr.fill]
      cases hpl : place i with
      | none => rw [hpl] at hok; simp at hok
      | some q =>
        obtain ⟨off, size⟩ := q
        rw [hpl] at hok
        dsimp only at hok ⊢
        generalize hq : putP cs off v = q at *
        cases hk : (q.1 && Nat.beq (lenC (segsOf v)) size && !Nat.beq size 0) with
        | false => simp [hk] at hok
        | true =>
          simp only [hk, cond_true] at hok ⊢
          simp only [Bool.and_eq_true, Bool.not_eq_true'] at hk
          obtain ⟨⟨hk1, hk2⟩, hk3⟩ := hk
          have hk2 : lenC (segsOf v) = size := by simpa using hk2
          have hk3 : size ≠ 0 := by intro e; subst e; simp at hk3
          have key : y.cells.size = size ∧ off + y.cells.size ≤ ys.size ∧ RCn nx ν q.2 (ys.toList.take off ++ y.cells.toList ++ ys.toList.drop (off + y.cells.size)) := by
            by_cases hag : ∃ ns, v = .ag ns
            · obtain ⟨ns, rfl⟩ := hag
              simp only [segsOf] at hk2
              simp only [putP] at hq
              subst hq
              have hv0 := hv.here
              cases hv0 with
              | ag _ us hu =>
                have hl := hu.length
                obtain ⟨h1, h2⟩ := wrR_sound off 0 hc.here hu hk1
                have hsz : us.size = size := by rw [← Array.length_toList, hl, hk2]
                refine ⟨hsz, ?_, fun ν' ha => ?_⟩
                · rcases h1 with h1 | h1
                  · have : size = 0 := by rw [← hsz, ← Array.length_toList, h1]; rfl
                    exact absurd this hk3
                  · simp only [Value.cells]; simp at h1; omega
                · have hv := hv ν' ha
                  cases hv with
                  | ag _ _ hu' =>
                    have := (wrR_sound off 0 (hc ν' ha) hu' hk1).2
                    simpa [Value.cells] using this
            · have hsc : putP cs off v = wr1 cs off 0 v := by cases v <;> first | rfl | exact absurd ⟨_, rfl⟩ hag
              rw [hsc] at hq
              subst hq
              obtain ⟨h1, h2, h3⟩ := wr1_sound hv.here off 0 hc.here hk1
              have hcells : y.cells = #[y] := by cases y <;> first | rfl | simp [Value.oneCell'] at h3
              have hone : lenC (segsOf v) = 1 := by cases v <;> first | rfl | exact absurd ⟨_, rfl⟩ hag
              have h1' : off < ys.size := by simpa using h1
              refine ⟨by rw [hcells, ← hk2, hone]; rfl, by rw [hcells]; show off + 1 ≤ ys.size; omega, fun ν' ha => ?_⟩
              obtain ⟨g1, g2, g3⟩ := wr1_sound (hv ν' ha) off 0 (hc ν' ha) hk1
              rw [List.set_eq_take_append_cons_drop, if_pos g1] at g2
              rw [hcells]
              simpa using g2
          obtain ⟨k1, k2, k3⟩ := key
          rw [if_neg (by simp [k1]; omega)]
          obtain ⟨zs, z1, z2⟩ := fillP_sound place parts parts' q.2 (y.cells.zipIdx.foldl (fun cs (c, j) => cs.setIfInBounds (off + j) c) ys) hm
            (fun j p p' hj hj' => hp (j + 1) p p' (by simpa using hj) (by simpa using hj'))
            (by rw [foldl_set_array _ _ _ k2]; exact k3) hok
          exact ⟨zs, z1, z2⟩

theorem parts_sound {ρ : Operand → V} {σ : Operand → Value} (hρ : ∀ x, RVn nx ν (ρ x) (σ x)) (parts : Array (Nat × Operand)) :
    (parts.toList.map fun (i, x) => (i, ρ x)).map (·.1) = (parts.map fun (i, x) => (i, σ x)).toList.map (·.1) ∧
    ∀ (i : Nat) (p : Nat × V) (p' : Nat × Value), (parts.toList.map fun (i, x) => (i, ρ x))[i]? = some p → (parts.map fun (i, x) => (i, σ x)).toList[i]? = some p' → RVn nx ν p.2 p'.2 := by
  constructor
  · simp
  · intro i p p' h1 h2
    simp only [Array.toList_map, List.getElem?_map] at h1 h2
    cases hq : parts.toList[i]? with
    | none => simp [hq] at h1
    | some q =>
      simp [hq] at h1 h2
      subst h1 h2
      exact hρ _

theorem op_build {ρ : Operand → V} {σ : Operand → Value} {o : Oper} (hρ : ∀ x, RVn nx ν (ρ x) (σ x)) (hh : RH nx ν h w) {t : TypeId} {parts : Array (Nat × Operand)} (ho : o.op = .build t parts)
    (hok : (ev1 P ρ h nx (.build t parts)).ok = true) : Out P r nx ν h w (execOp σ o) (ev1 P ρ h nx (.build t parts)) := by
  simp only [execOp, ho]
  simp only [ev1] at hok ⊢
  obtain ⟨p1, p2⟩ := parts_sound hρ parts
  cases hu : P.underlying t with
  | none => simp [hu, bad] at hok
  | some d =>
    cases d <;> simp only [hu] at hok ⊢ <;> try (simp [bad] at hok; done)
    · rename_i n e
      simp only [Bool.and_eq_true] at hok
      obtain ⟨⟨k1, k2⟩, k3⟩ := hok
      obtain ⟨z, h1, h2⟩ := zok_run k2 w
      obtain ⟨zs, g1, g2⟩ := fillP_sound (P := P) (nx := nx) (ν := ν) _ _ _ _ z.cells p1 p2 (fun ν' _ => h2 ν') k1
      refine Out.quiet' (y := .agg zs) hh ?_ (fun ν' ha => .ag _ _ (g2 ν' ha))
      rw [Array.toList_map] at g1
      simp only [Sem.run_bind, Instr.build, h1, Result.andThen_ok, run_underlying hu, run_sizeOf k3, Array.toList_map, g1, Sem.run_pure]
    · rename_i fs
      simp only [Bool.and_eq_true] at hok
      obtain ⟨⟨k1, k2⟩, k3⟩ := hok
      obtain ⟨z, h1, h2⟩ := zok_run k2 w
      have hpl : (fs.mapM fun f => do pure (f.offset, ← sizeOf f.type) : Sem (Array (Nat × Nat))).run P w = .ok (fs.map fun f => (f.offset, P.cellsOf f.type)) w := by
        have : ∀ l : List Field, (l.all fun g => tyOk P g.type) = true → (l.mapM fun f => do pure (f.offset, ← sizeOf f.type) : Sem (List (Nat × Nat))).run P w = .ok (l.map fun f => (f.offset, P.cellsOf f.type)) w := by
          intro l
          induction l with
          | nil => intro _; rfl
          | cons f l ih =>
            intro hl
            simp only [List.all_cons, Bool.and_eq_true] at hl
            simp only [List.mapM_cons, Sem.run_bind, run_sizeOf hl.1, Result.andThen_ok, Sem.run_pure, ih hl.2, List.map_cons]
        rw [Array.mapM_eq_mapM_toList]
        simp only [Sem.run_map, this fs.toList k3, Result.andThen_ok]
        rw [← Array.toList_map]
      obtain ⟨zs, g1, g2⟩ := fillP_sound (P := P) (nx := nx) (ν := ν) _ _ _ _ z.cells p1 p2 (fun ν' _ => h2 ν') k1
      refine Out.quiet' (y := .agg zs) hh ?_ (fun ν' ha => .ag _ _ (g2 ν' ha))
      have hfun : (fun (i : Nat) => (fs.map fun f => (f.offset, P.cellsOf f.type))[i]?) = fun (i : Nat) => (fs[i]?).map fun (g : Field) => (g.offset, P.cellsOf g.type) := by
        funext i; simp
      rw [Array.toList_map] at g1
      simp only [Sem.run_bind, Instr.build, h1, Result.andThen_ok, run_underlying hu, hpl, hfun, Array.toList_map, g1, Sem.run_pure]

end Go.Am
