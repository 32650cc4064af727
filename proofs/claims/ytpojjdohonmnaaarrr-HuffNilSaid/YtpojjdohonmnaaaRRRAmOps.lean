/-
  A part of an abstract machine that runs a function's text over symbolic values, and of the proof that the machine is sound over the model. No condition.
-/
import Derived.Test.YtpojjdohonmnaaaRRRAmHeap
import Derived.Laws.Entries
import Derived.Laws.Cells
import Derived.Laws.Rows
namespace Go.Am
open Go Go.RowKit

variable {P : Program} {nx : Nat} {r : Nat → Prop} {ν : Nm} {h : Hp} {w : World}

def Out (P : Program) (r : Nat → Prop) (nx : Nat) (ν : Nm) (h : Hp) (w : World) (s : Sem Next) (q : Res) : Prop :=
  ∃ n y w' ν', s.run P w = .ok n w' ∧ (n = .value y ∨ (n = .skip ∧ y = undef)) ∧ nx ≤ q.nx ∧ Agr nx ν ν' ∧ RVn q.nx ν' q.v y ∧ RH q.nx ν' q.h w' ∧ Ext r ν h w ν' q.h w'

/-- an operation that only tells a value -/
theorem Out.quiet {s : Sem Next} {v : V} {y : Value} (hh : RH nx ν h w) (hs : s.run P w = .ok (.value y) w) (hv : RVn nx ν v y) : Out P r nx ν h w s ⟨true, v, h, nx⟩ :=
  ⟨_, y, w, ν, hs, .inl rfl, Nat.le_refl _, Agr.refl _ _, hv, hh, Ext.refl _ _ _ _⟩

theorem Out.quiet' {s : Sem Next} {q : Bool} {v : V} {y : Value} (hh : RH nx ν h w) (hs : s.run P w = .ok (.value y) w) (hv : RVn nx ν v y) : Out P r nx ν h w s ⟨q, v, h, nx⟩ :=
  ⟨_, y, w, ν, hs, .inl rfl, Nat.le_refl _, Agr.refl _ _, hv, hh, Ext.refl _ _ _ _⟩

/-! values that hold no names -/
theorem rvn_b (t : Bool) : RVn nx ν (.b t) (.bool t) := fun _ _ => .b t
theorem rvn_i (k : IntKind) (n : Int) : RVn nx ν (.i k n) (.int k n) := fun _ _ => .i k n
theorem rvn_x (y : Value) : RVn nx ν .dk y := fun _ _ => .dk y
theorem rvn_s {l : List Int} {s : ByteArray} (hl : l = s.data.toList.map (fun b => (b.toNat : Int))) : RVn nx ν (.s l) (.string s) := fun _ _ => .s s l hl

theorem RVn.of_i {k : IntKind} {n : Int} {y : Value} (h : RVn nx ν (.i k n) y) : y = .int k n := by cases h.here; rfl
theorem RVn.of_b {t : Bool} {y : Value} (h : RVn nx ν (.b t) y) : y = .bool t := by cases h.here; rfl

/-! types -/
theorem underlying_info {t : TypeId} {d : TypeDesc} (h : P.underlying t = some d) : ∃ i, P.info? t = some i := by
  unfold Program.underlying at h
  cases hi : P.info? t with
  | none => simp [hi] at h
  | some i => exact ⟨i, rfl⟩

theorem run_sizeOf {t : TypeId} (h : tyOk P t = true) (w : World) : (sizeOf t).run P w = .ok (P.cellsOf t) w := by
  unfold tyOk at h
  obtain ⟨i, hi⟩ := Option.isSome_iff_exists.1 h
  simp [sizeOf, typeInfo, hi, Program.cellsOf]

theorem tyOk_of {t : TypeId} {d : TypeDesc} (h : P.underlying t = some d) : tyOk P t = true := by
  obtain ⟨i, hi⟩ := underlying_info h
  simp [tyOk, hi]

theorem run_isAgg {t : TypeId} {b : Bool} (h : aggK P t = some b) (w : World) : (isAgg t).run P w = .ok b w := by
  unfold aggK at h
  cases hu : P.underlying t with
  | none => simp [hu] at h
  | some d =>
    simp only [hu, Option.map_some, Option.some.injEq] at h
    simp only [isAgg, Sem.run_bind, run_underlying hu, Result.andThen_ok]
    subst h
    cases d <;> rfl

theorem aggK_tyOk {t : TypeId} {b : Bool} (h : aggK P t = some b) : tyOk P t = true := by
  unfold aggK at h
  cases hu : P.underlying t with
  | none => simp [hu] at h
  | some d => exact tyOk_of hu

/-! memory -/
theorem run_loadCells_row {b o n : Nat} {c : Array Value} {e : TypeId} {fr : Nat × Nat} (hb : w.heap[b]? = some (.cells c e fr)) (hn : n = 0 ∨ o + n ≤ c.size) :
    (loadCells ⟨b, o, none⟩ n).run P w = .ok ((c.toList.drop o).take n).toArray w := by
  have hl : ((c.toList.drop o).take n).length = n := by
    simp only [List.length_take, List.length_drop, Array.length_toList]; omega
  have := run_loadCells_list (P := P) w ⟨b, o, none⟩ ((c.toList.drop o).take n) (fun j v hj => by
    rw [Addr.add_lit, cell_of_row w b (o + j) c e fr hb]
    rw [List.getElem?_take] at hj
    split at hj
    · rw [List.getElem?_drop] at hj; simpa using hj
    · simp at hj)
  rw [hl] at this
  exact this

/-- what a write of cells does -/
structure Wrote (w w' : World) (b : Nat) (c' : Array Value) (e : TypeId) (fr : Nat × Nat) : Prop where
  blk : w'.heap[b]? = some (.cells c' e fr)
  old : ∀ k, k ≠ b → w'.heap[k]? = w.heap[k]?
  size : w'.heap.size = w.heap.size
  os : w'.os = w.os
  tape : w'.tape = w.tape
  output : w'.output = w.output

theorem run_store_row {b o : Nat} {c : Array Value} {e : TypeId} {fr : Nat × Nat} (hb : w.heap[b]? = some (.cells c e fr)) (hf : ¬ (fr.1 ≤ o ∧ o < fr.2)) (ho : o < c.size) {v : Value} (hv : v.oneCell' = true) :
    (store ⟨b, o, none⟩ v).run P w = .ok () (w.setCell ⟨b, o, none⟩ v) ∧ Wrote w (w.setCell ⟨b, o, none⟩ v) b (c.setIfInBounds o v) e fr := by
  refine ⟨?_, ?_, ?_, ?_, rfl, rfl, rfl⟩
  · rw [run_store P w _ v _ hv, cell_of_row w b o c e fr hb, Array.getElem?_eq_getElem ho]
    have : w.frozen? ⟨b, o, none⟩ = false := by
      simp only [World.frozen?, hb]
      simp; omega
    simp [this]
  · simp [World.setCell, Array.getElem?_modify, hb]
  · intro k hk; exact heap_setCell_other w _ k v hk
  · exact World.size_setCell _ _ _

theorem run_storeCells_row {b o : Nat} {e : TypeId} {fr : Nat × Nat} : ∀ (vs : List Value) (i : Nat) (w : World) (c : Array Value), w.heap[b]? = some (.cells c e fr) →
    Free fr c.size → (vs = [] ∨ o + i + vs.length ≤ c.size) → (∀ v ∈ vs, v.oneCell' = true) →
    ∃ w', (storeCells ⟨b, o, none⟩ vs i).run P w = .ok () w' ∧
      Wrote w w' b (c.toList.take (o + i) ++ vs ++ c.toList.drop (o + i + vs.length)).toArray e fr
  | [], i, w, c, hb, hf, hl, hv => ⟨w, rfl, by simpa using hb, fun _ _ => rfl, rfl, rfl, rfl, rfl⟩
  | v :: vs, i, w, c, hb, hf, hl, hv => by
    have hl : o + i + (vs.length + 1) ≤ c.size := by simpa using hl
    obtain ⟨h1, h2⟩ := run_store_row (P := P) hb (hf (o + i) (by omega)) (by omega) (hv v (by simp))
    obtain ⟨w', h3, h4⟩ := run_storeCells_row (b := b) (o := o) (e := e) (fr := fr) vs (i + 1) _ _ h2.blk (by simpa using hf) (.inr (by simp; omega)) (fun u hu => hv u (by simp [hu]))
    refine ⟨w', ?_, ?_⟩
    · simp only [storeCells, Addr.add_lit, Sem.run_bind, h1, Result.andThen_ok]; exact h3
    · have e1 : (c.setIfInBounds (o + i) v).toList.take (o + (i + 1)) ++ vs ++ (c.setIfInBounds (o + i) v).toList.drop (o + (i + 1) + vs.length) =
          c.toList.take (o + i) ++ (v :: vs) ++ c.toList.drop (o + i + (v :: vs).length) := by
        rw [Array.toList_setIfInBounds, List.drop_set_of_lt (by omega), ← Nat.add_assoc, List.take_succ_eq_append_getElem (by simp; omega), List.take_set_of_le (by omega)]
        simp only [List.getElem_set_self, List.append_assoc, List.cons_append, List.length_cons, List.nil_append]
        rw [show o + i + 1 + vs.length = o + i + (vs.length + 1) by omega]
      rw [e1] at h4
      exact ⟨h4.blk, fun k hk => (h4.old k hk).trans (h2.old k hk), h4.size.trans h2.size, h4.os.trans h2.os, h4.tape.trans h2.tape, h4.output.trans h2.output⟩

/-- reading cells of a name's block -/
theorem RH.read (hh : RH nx ν h w) {a : A} {b sz : Nat} {cs : List Seg} (hg : hget h a.n = some cs) (hν : ν a.n = some (some (b, sz))) :
    ∃ c e fr ys, w.heap[b]? = some (.cells c e fr) ∧ c.size = sz ∧ Free fr sz ∧ RCn nx ν cs ys ∧ (∃ zs, c.toList = ys ++ zs) := by
  obtain ⟨c, e, fr, hb, hs, hf, ys, zs, he, hc⟩ := hh.blk a.n cs b sz hg hν
  exact ⟨c, e, fr, ys, hb, hs, hf, hc, zs, he⟩

theorem take_drop_prefix {α : Type _} {l ys zs : List α} (hl : l = ys ++ zs) {d n : Nat} (h : n = 0 ∨ d + n ≤ ys.length) : (l.drop d).take n = (ys.drop d).take n := by
  subst hl
  rcases h with rfl | h
  · simp
  · rw [List.drop_append_of_le_length (by omega), List.take_append_of_le_length (by simp; omega)]

theorem RCn_rdR {cs : List Seg} {ys : List Value} (h : RCn nx ν cs ys) {o d len : Nat} (hk : (rdR cs o d len).1 = true) : RCn nx ν (rdR cs o d len).2 ((ys.drop (d + o)).take len) :=
  fun ν' ha => (rdR_sound o d len (h ν' ha) hk).2

theorem op_load {ρ : Operand → V} {σ : Operand → Value} {o : Oper} (hρ : ∀ x, RVn nx ν (ρ x) (σ x)) (hh : RH nx ν h w) {t : TypeId} {x : Operand} (ho : o.op = .load t x)
    (hok : (ev1 P ρ h nx (.load t x)).ok = true) : Out P r nx ν h w (execOp σ o) (ev1 P ρ h nx (.load t x)) := by
  have hx := hρ x
  simp only [execOp, ho]
  simp only [ev1] at hok ⊢
  generalize ρ x = v at *
  cases v <;> try (simp [bad] at hok; done)
  rename_i a
  cases a with
  | none => simp [bad] at hok
  | some a =>
    dsimp only at hok ⊢
    cases hg : hget h a.n with
    | none => simp [hg, bad] at hok
    | some cs =>
      simp only [hg] at hok ⊢
      have hv := hx.here
      generalize σ x = y at *
      cases hv with
      | p _ b sz hν =>
        obtain ⟨c, e, fr, ys, hb, hs, hf, hc, zs, he⟩ := hh.read hg hν
        cases hk : aggK P t with
        | none => simp [hk, bad] at hok
        | some q =>
          have hty := aggK_tyOk hk
          cases q with
          | true =>
            simp only [hk] at hok ⊢
            obtain ⟨h1, h2⟩ := rdR_sound a.o a.d (P.cellsOf t) hc.here hok
            have hlen : ys.length ≤ c.size := by rw [← Array.length_toList, he]; simp
            refine Out.quiet' (y := .agg ((c.toList.drop (a.d + a.o)).take (P.cellsOf t)).toArray) hh ?_ ?_
            · simp only [Sem.run_bind, Instr.loadAt, Instr.sureAddr, loadVar, Sem.run_pure, Result.andThen_ok, run_isAgg hk, run_sizeOf hty, if_true,
                run_loadCells_row hb (n := P.cellsOf t) (o := a.d + a.o) (h1.imp id (fun h1 => by omega))]
            · intro ν' ha
              refine .ag _ _ ?_
              rw [List.toList_toArray, take_drop_prefix he h1]
              exact RCn_rdR hc hok ν' ha
          | false =>
            simp only [hk] at hok ⊢
            obtain ⟨y, hy, hv⟩ := rd1_sound a.o a.d hc.here hok
            have hcy : c[a.d + a.o]? = some y := by
              rw [← Array.getElem?_toList, he, List.getElem?_append_left (List.getElem?_eq_some_iff.1 hy).1]; exact hy
            refine Out.quiet' (y := y) hh ?_ ?_
            · simp only [Sem.run_bind, Instr.loadAt, Instr.sureAddr, loadVar, Sem.run_pure, Result.andThen_ok, run_isAgg hk, Bool.false_eq_true, if_false, run_load, cell_of_row w b _ c e fr hb, hcy]
            · intro ν' ha
              obtain ⟨y', hy', hv'⟩ := rd1_sound a.o a.d (hc ν' ha) hok
              rw [hy] at hy'; cases hy'; exact hv'

theorem RVn.undef : RVn nx ν .dk Go.undef := rvn_x _

theorem op_store {ρ : Operand → V} {σ : Operand → Value} {o : Oper} (hρ : ∀ x, RVn nx ν (ρ x) (σ x)) (hh : RH nx ν h w) {t : TypeId} {x z : Operand} (ho : o.op = .store t x z)
    (hr : ∀ a, ρ x = .p (some a) → r a.n) (hok : (ev1 P ρ h nx (.store t x z)).ok = true) : Out P r nx ν h w (execOp σ o) (ev1 P ρ h nx (.store t x z)) := by
  have hx := hρ x
  have hz := hρ z
  simp only [execOp, ho]
  simp only [ev1] at hok ⊢
  generalize ρ x = v at *
  cases v <;> try (simp [bad] at hok; done)
  rename_i a
  cases a with
  | none => simp [bad] at hok
  | some a =>
    dsimp only at hok ⊢
    have hra := hr a rfl
    cases hg : hget h a.n with
    | none => simp [hg, bad] at hok
    | some cs =>
      simp only [hg] at hok ⊢
      have hv := hx.here
      generalize σ x = y at *
      cases hv with
      | p _ b sz hν =>
        obtain ⟨c, e, fr, ys, hb, hs, hf, hc, zs, he⟩ := hh.read hg hν
        have hlen : ys.length ≤ c.size := by rw [← Array.length_toList, he]; simp
        cases hty : tyOk P t with
        | false => simp [hty, bad] at hok
        | true =>
          simp only [hty, cond_true] at hok ⊢
          generalize ρ z = u at *
          -- the cells that are stored
          have fin : ∀ (vs : List Value) (ds : List Seg), (σ z).cells.toList = vs → vs.length = P.cellsOf t → (∀ v ∈ vs, v.oneCell' = true) → (vs = [] ∨ a.d + a.o + vs.length ≤ ys.length) →
              RCn nx ν ds (ys.take (a.d + a.o) ++ vs ++ ys.drop (a.d + a.o + vs.length)) →
              ∀ q, Out P r nx ν h w (do Instr.storeAt t (.pointer (some ⟨b, a.d + a.o, none⟩)) (σ z); pure .skip) ⟨q, .dk, (a.n, some ds) :: h, nx⟩ := by
            intro vs ds e1 e2 e3 e4 e5 q
            obtain ⟨w', hrun, hw⟩ := run_storeCells_row (P := P) (o := a.d + a.o) vs 0 w c hb (by rw [hs]; exact hf) (e4.imp id (fun h => by omega)) e3
            obtain ⟨g1, g2⟩ := write_blk (r := r) hh hg hra hν (c := (c.toList.take (a.d + a.o + 0) ++ vs ++ c.toList.drop (a.d + a.o + 0 + vs.length)).toArray) e fr hf
              (by simp only [List.size_toArray, List.length_append, List.length_take, List.length_drop, Array.length_toList]; rcases e4 with rfl | e4 <;> (try simp only [List.length_nil]) <;> omega) (ys := ys.take (a.d + a.o) ++ vs ++ ys.drop (a.d + a.o + vs.length)) (zs := zs)
              (by rw [List.toList_toArray, he]
                  rcases e4 with rfl | e4
                  · simp
                  · rw [Nat.add_zero, splice_append_left _ _ _ _ _ e4]) e5 hw.blk hw.old hw.size hw.os hw.tape hw.output
            refine ⟨.skip, Go.undef, w', ν, ?_, .inr ⟨rfl, rfl⟩, Nat.le_refl _, Agr.refl _ _, RVn.undef, g1, g2⟩
            have hsz : (σ z).cells.size = P.cellsOf t := by rw [← Array.length_toList, e1, e2]
            simp only [Instr.storeAt, Instr.sureAddr, storeVar, Sem.run_bind, Sem.run_pure, Result.andThen_ok, run_sizeOf hty, hsz, ne_eq, not_true, if_false, e1, hrun]
          cases u with
          | ag ns =>
            dsimp only at hok ⊢
            simp only [Bool.and_eq_true] at hok
            obtain ⟨hok1, hok2⟩ := hok
            have hzv := hz.here
            generalize hσz : σ z = zy at *
            cases hzv with
            | ag _ us hu =>
              have hl := hu.length
              have hl2 : lenC ns = P.cellsOf t := by simpa using hok2
              obtain ⟨h1, h2⟩ := wrR_sound a.o a.d hc.here hu hok1
              have := fin us.toList _ rfl (by omega) hu.one h1 (fun ν' ha => by
                have := hz ν' ha
                cases this with
                | ag _ _ hu' => exact (wrR_sound a.o a.d (hc ν' ha) hu' hok1).2)
              exact this _
          | _ =>
            all_goals (
              dsimp only at hok ⊢
              simp only [Bool.and_eq_true] at hok
              obtain ⟨hok1, hok2⟩ := hok
              have hl2 : P.cellsOf t = 1 := by simpa using hok2
              obtain ⟨h1, h2, h3⟩ := wr1_sound hz.here a.o a.d hc.here hok1
              have hcells : (σ z).cells.toList = [σ z] := by
                generalize σ z = zy at h3
                cases zy <;> first | rfl | simp [Value.oneCell'] at h3
              have := fin [σ z] _ hcells (by rw [hl2]; rfl) (by simpa using h3) (.inr (by simp; omega)) (fun ν' ha => by
                obtain ⟨g1, g2, g3⟩ := wr1_sound (hz ν' ha) a.o a.d (hc ν' ha) hok1
                rw [List.set_eq_take_append_cons_drop, if_pos g1] at g2
                simpa using g2)
              exact this _)

end Go.Am
