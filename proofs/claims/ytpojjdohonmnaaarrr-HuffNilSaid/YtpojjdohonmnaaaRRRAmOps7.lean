/-
  A part of an abstract machine that runs a function's text over symbolic values, and of the proof that the machine is sound over the model. No condition.
-/
import Derived.Test.YtpojjdohonmnaaaRRRAmOps6
namespace Go.Am
open Go Go.RowKit

variable {P : Program} {nx : Nat} {r : Nat → Prop} {ν : Nm} {h : Hp} {w : World} {ρ : Operand → V} {σ : Operand → Value} {o : Oper}

theorem ble_trans {a b c : Nat} (h : Nat.ble a b = true) (h' : b ≤ c) : Nat.ble a c = true :=
  Nat.ble_eq_true_of_le (Nat.le_trans (Nat.le_of_ble_eq_true h) h')

theorem bnd_mono {len cap : Nat} {lo hi mx : Option V} (hok : (bnd len len lo hi mx).1 = true) (hl : len ≤ cap) :
    (bnd len cap lo hi mx).1 = true ∧ (bnd len cap lo hi mx).2.1 = (bnd len len lo hi mx).2.1 ∧ (bnd len cap lo hi mx).2.2.1 = (bnd len len lo hi mx).2.2.1 ∧
      (mx ≠ none → (bnd len cap lo hi mx).2.2.2 = (bnd len len lo hi mx).2.2.2) := by
  unfold bnd at hok ⊢
  cases mx with
  | none =>
    cases hi with
    | none =>
      cases lo with
      | none => exact ⟨rfl, rfl, rfl, fun h => absurd rfl h⟩
      | some v => cases v <;> first | (simp at hok; done) | exact ⟨hok, rfl, rfl, fun h => absurd rfl h⟩
    | some u =>
      cases u <;> try (simp at hok; done)
      cases lo with
      | none =>
        simp only [Bool.and_eq_true, decide_eq_true_eq] at hok ⊢
        refine ⟨⟨hok.1, ble_trans hok.2 hl⟩, ?_, ?_, ?_⟩ <;> simp
      | some v =>
        cases v <;> try (simp at hok; done)
        simp only [Bool.and_eq_true, decide_eq_true_eq] at hok ⊢
        obtain ⟨⟨⟨a1, a2⟩, a3⟩, a4⟩ := hok
        refine ⟨⟨⟨⟨a1, ble_trans a2 hl⟩, a3⟩, a4⟩, ?_, ?_, ?_⟩ <;> simp
  | some m =>
    cases m <;> try (simp at hok; done)
    cases hi with
    | none => simp at hok
    | some u =>
      cases u <;> try (simp at hok; done)
      cases lo with
      | none =>
        simp only [Bool.and_eq_true, decide_eq_true_eq] at hok ⊢
        obtain ⟨⟨⟨a1, a2⟩, a3⟩, a4⟩ := hok
        refine ⟨⟨⟨⟨a1, ble_trans a2 hl⟩, a3⟩, a4⟩, ?_, ?_, ?_⟩ <;> simp
      | some v =>
        cases v <;> try (simp at hok; done)
        simp only [Bool.and_eq_true, decide_eq_true_eq] at hok ⊢
        obtain ⟨⟨⟨⟨⟨a1, a2⟩, a3⟩, a4⟩, a5⟩, a6⟩ := hok
        refine ⟨⟨⟨⟨⟨⟨a1, ble_trans a2 hl⟩, a3⟩, a4⟩, a5⟩, a6⟩, ?_, ?_, ?_⟩ <;> simp

theorem opt_map {ρ : Operand → V} {σ : Operand → Value} (hρ : ∀ x, RVn nx ν (ρ x) (σ x)) (a : Option Operand) :
    (∀ v, a.map ρ = some v → ∃ y, a.map σ = some y ∧ RVn nx ν v y) ∧ (a.map ρ = none → a.map σ = none) := by
  cases a with
  | none => exact ⟨fun v h => by simp at h, fun _ => rfl⟩
  | some x => exact ⟨fun v h => by simp at h; subst h; exact ⟨σ x, rfl, hρ x⟩, fun h => by simp at h⟩

theorem run_bnd (hρ : ∀ x, RVn nx ν (ρ x) (σ x)) {len cap : Nat} (lo hi mx : Option Operand) (hok : (bnd len cap (lo.map ρ) (hi.map ρ) (mx.map ρ)).1 = true) (hlc : len ≤ cap) (isSlice : Bool) (w : World) :
    let q := (bnd len cap (lo.map ρ) (hi.map ρ) (mx.map ρ)).2
    (Instr.sliceBounds isSlice len cap (lo.map σ) (hi.map σ) (mx.map σ)).run P w = .ok (q.1, q.2.1, q.2.2) w ∧ q.1 ≤ q.2.1 ∧ q.2.1 ≤ q.2.2 ∧ q.2.2 ≤ cap ∧ (mx.map ρ = none → q.2.2 = cap) :=
  bnd_sound (opt_map hρ lo).1 (opt_map hρ lo).2 (opt_map hρ hi).1 (opt_map hρ hi).2 (opt_map hρ mx).1 (opt_map hρ mx).2 hok hlc isSlice w

theorem add_mul (b off l sz : Nat) : Addr.add ⟨b, off, none⟩ (l * sz) = ⟨b, off + l * sz, none⟩ := Addr.add_lit _ _ _

theorem op_slice (hρ : ∀ x, RVn nx ν (ρ x) (σ x)) (hh : RH nx ν h w) {t : TypeId} {x : Operand} {lo hi mx : Option Operand} (ho : o.op = .slice t x lo hi mx)
    (hok : (ev1 P ρ h nx (.slice t x lo hi mx)).ok = true) : Out P r nx ν h w (execOp σ o) (ev1 P ρ h nx (.slice t x lo hi mx)) := by
  have hx := hρ x
  simp only [execOp, ho]
  simp only [ev1] at hok ⊢
  generalize ρ x = v at *
  have hx0 := hx.here
  generalize σ x = y at *
  cases hu : P.underlying t with
  | none => simp [hu, bad] at hok
  | some d =>
    cases d <;> simp only [hu] at hok ⊢ <;> (try (cases hx0 <;> simp [bad] at hok; done))
    · -- a text
      cases hx0 <;> try (simp [bad] at hok; done)
      rename_i s l hl
      cases mx with
      | some m => simp [bad] at hok
      | none =>
        dsimp only at hok ⊢
        have hlen : l.length = s.size := by rw [hl, List.length_map]; rfl
        obtain ⟨g1, g2, g3, g4, g5⟩ := run_bnd (P := P) hρ lo hi none hok (Nat.le_refl _) false w
        simp only [Option.map_none] at g1 g2 g3 g4 g5
        rw [hlen] at g1 g2 g3 g4 ⊢
        generalize hq : (bnd s.size s.size (Option.map ρ lo) (Option.map ρ hi) none) = q at *
        refine Out.quiet' (y := .string (s.extract q.2.1 q.2.2.1)) hh ?_ (rvn_s ?_)
        · simp only [Sem.run_bind, Instr.sliceAt, run_underlying hu, Result.andThen_ok, Instr.slice, Option.map_none, Option.isSome_none, Bool.false_eq_true, if_false, Sem.run_pure, g1]
        · rw [hl, ByteArray.data_extract, Array.toList_extract, List.extract_eq_take_drop, List.map_take, List.map_drop]
    · -- a slice
      rename_i e
      cases hx0 <;> try (simp [bad] at hok; done)
      · -- none
        rename_i len cap
        simp only [Bool.and_eq_true] at hok ⊢
        obtain ⟨⟨k1, k2⟩, k3⟩ := hok
        obtain ⟨g1, g2, g3, g4, g5⟩ := run_bnd (P := P) hρ lo hi mx k1 (Nat.le_of_ble_eq_true k3) true w
        refine Out.quiet' (y := .slice none _ _) hh ?_ (fun ν' ha => .sln _ _)
        simp only [Sem.run_bind, Instr.sliceAt, run_underlying hu, Result.andThen_ok, Instr.slice, Sem.run_pure, g1, run_sizeOf k2, Option.map_none, ite_self]
      · rename_i a b sz off len cap h1 h2 h3
        simp only [Bool.and_eq_true] at hok ⊢
        obtain ⟨k1, k2⟩ := hok
        obtain ⟨g1, g2, g3, g4, g5⟩ := run_bnd (P := P) hρ lo hi mx k1 h2 true w
        generalize hq : (bnd len cap (Option.map ρ lo) (Option.map ρ hi) (Option.map ρ mx)) = q at *
        refine Out.quiet' (y := .slice (if q.2.2.2 = q.2.1 then some ⟨b, off, none⟩ else some ⟨b, off + q.2.1 * P.cellsOf e, none⟩) (q.2.2.1 - q.2.1) (q.2.2.2 - q.2.1)) hh ?_ (fun ν' ha => ?_)
        · simp only [Sem.run_bind, Instr.sliceAt, run_underlying hu, Result.andThen_ok, Instr.slice, Sem.run_pure, g1, run_sizeOf k2, Option.map_some, add_mul]
        · have := hx ν' ha
          cases this with
          | sl _ _ sz' _ _ _ h1' _ _ =>
            split
            · exact .sl _ _ _ _ _ _ (by rw [step_n]; exact h1') (by omega) (.inr (by omega))
            · refine .sl _ _ _ _ _ _ (by rw [step_n]; exact h1') (by omega) ?_
              rcases h3 with h3 | h3
              · left; rw [step_off, h3]
              · right; omega
      · rename_i a b sz off w' len cap h1 h2 h3 h4
        have key : ∀ (mx0 : Option V), (mx.map ρ = mx0) → (bnd len len (lo.map ρ) (hi.map ρ) mx0).1 = true → tyOk P e = true →
            ∃ m, (bnd len len (lo.map ρ) (hi.map ρ) mx0).2.1 ≤ (bnd len len (lo.map ρ) (hi.map ρ) mx0).2.2.1 ∧ (bnd len len (lo.map ρ) (hi.map ρ) mx0).2.2.1 ≤ m ∧ m ≤ cap ∧ (mx0 = none → m = cap) ∧
              (mx0 ≠ none → m = (bnd len len (lo.map ρ) (hi.map ρ) mx0).2.2.2) ∧
              (Instr.sliceAt t (.slice (some ⟨b, off, none⟩) len cap) (lo.map σ) (hi.map σ) (mx.map σ)).run P w =
                .ok (.slice (if m = (bnd len len (lo.map ρ) (hi.map ρ) mx0).2.1 then some ⟨b, off, none⟩ else some ⟨b, off + (bnd len len (lo.map ρ) (hi.map ρ) mx0).2.1 * P.cellsOf e, none⟩)
                  ((bnd len len (lo.map ρ) (hi.map ρ) mx0).2.2.1 - (bnd len len (lo.map ρ) (hi.map ρ) mx0).2.1) (m - (bnd len len (lo.map ρ) (hi.map ρ) mx0).2.1)) w := by
          intro mx0 hm hk hty
          subst hm
          obtain ⟨b1, b2, b3, b4⟩ := bnd_mono hk h2
          obtain ⟨g1, g2, g3, g4, g5⟩ := run_bnd (P := P) hρ lo hi mx b1 h2 true w
          rw [b2] at g1 g2
          rw [b3] at g1 g2 g3
          refine ⟨_, g2, g3, g4, g5, b4, ?_⟩
          simp only [Sem.run_bind, Instr.sliceAt, run_underlying hu, Result.andThen_ok, Instr.slice, Sem.run_pure, g1, run_sizeOf hty, Option.map_some, add_mul]
        have sqrel : ∀ (m l u : Nat), w' = P.cellsOf e → l ≤ u → u ≤ m → m ≤ cap → RVn nx ν (.sq (step P e a l) w' (u - l)) (.slice (if m = l then some ⟨b, off, none⟩ else some ⟨b, off + l * P.cellsOf e, none⟩) (u - l) (m - l)) := by
          intro m l u hw h5 h6 h7 ν' ha
          have := hx ν' ha
          cases this with
          | sq _ _ sz' _ _ _ _ h1' _ _ h4' =>
            split
            · exact .sq _ _ _ _ _ _ _ (by rw [step_n]; exact h1') (by omega) (.inr (by omega)) (.inl (by omega))
            · refine .sq _ _ _ _ _ _ _ (by rw [step_n]; exact h1') (by omega) ?_ ?_
              · rcases h3 with h3 | h3
                · left; rw [step_off, h3]
                · right; omega
              · rcases h4' with h4' | h4'
                · left; omega
                · right
                  rw [← hw, Nat.add_assoc, ← Nat.add_mul]
                  have : (l + (m - l)) * w' ≤ cap * w' := Nat.mul_le_mul_right _ (by omega)
                  omega
        simp only [Bool.and_eq_true] at hok ⊢
        obtain ⟨⟨k1, k2⟩, k3⟩ := hok
        obtain ⟨m, m1, m2, m3, m4, m5, m6⟩ := key _ rfl k1 k3
        exact Out.quiet' hh (by rw [Sem.run_bind, m6]; rfl) (sqrel m _ _ (by simpa using k2) m1 m2 m3)
      · -- none, of the function's own
        rename_i a w' len h1 h2
        subst h2
        simp only [Bool.and_eq_true] at hok ⊢
        obtain ⟨⟨k1, k2⟩, k3⟩ := hok
        obtain ⟨g1, g2, g3, g4, g5⟩ := run_bnd (P := P) hρ lo hi mx k1 (Nat.le_refl _) true w
        generalize hq : bnd 0 0 (lo.map ρ) (hi.map ρ) (mx.map ρ) = q at *
        have z1 : q.2.1 = 0 := by omega
        have z2 : q.2.2.1 = 0 := by omega
        have z3 : q.2.2.2 = 0 := by omega
        rw [z1, z2, z3] at g1
        refine Out.quiet' (y := .slice none 0 0) hh ?_ (fun ν' ha => ?_)
        · simp only [Sem.run_bind, Instr.sliceAt, run_underlying hu, Result.andThen_ok, Instr.slice, Sem.run_pure, g1, run_sizeOf k3, Option.map_none, ite_self]
        · have := hx ν' ha
          cases this with
          | sqn _ _ _ h1' _ => exact .sqn _ _ _ (by rw [step_n]; exact h1') (by omega)
    · -- an array's address
      rename_i n e
      cases hx0 <;> try (simp [bad] at hok; done)
      rename_i a b sz h1
      simp only [Bool.and_eq_true] at hok ⊢
      obtain ⟨k1, k2⟩ := hok
      obtain ⟨g1, g2, g3, g4, g5⟩ := run_bnd (P := P) hρ lo hi mx k1 (Nat.le_refl _) false w
      generalize hq : (bnd n n (Option.map ρ lo) (Option.map ρ hi) (Option.map ρ mx)) = q at *
      refine Out.quiet' (y := .slice (some (if q.2.2.2 = q.2.1 then ⟨b, a.d + a.o, none⟩ else ⟨b, a.d + a.o + q.2.1 * P.cellsOf e, none⟩)) (q.2.2.1 - q.2.1) (q.2.2.2 - q.2.1)) hh ?_ (fun ν' ha => ?_)
      · simp only [Sem.run_bind, Instr.sliceAt, run_underlying hu, Result.andThen_ok, Instr.sureAddr, Sem.run_pure, g1, run_sizeOf k2, add_mul]
      · have := hx ν' ha
        cases this with
        | p _ _ sz' h1' =>
          split
          · exact .sl _ _ _ _ _ _ (by rw [step_n]; exact h1') (by omega) (.inr (by omega))
          · exact .sl _ _ _ _ _ _ (by rw [step_n]; exact h1') (by omega) (.inl (by rw [step_off]))

end Go.Am
