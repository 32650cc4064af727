/-
  A part of an abstract machine that runs a function's text over symbolic values, and of the proof that the machine is sound over the model. No condition.
-/
import Derived.Test.YtpojjdohonmnaaaRRRAmOps4
namespace Go.Am
open Go Go.RowKit

variable {P : Program} {nx : Nat} {r : Nat → Prop} {ν : Nm} {h : Hp} {w : World} {ρ : Operand → V} {σ : Operand → Value} {o : Oper}

theorem toNat_inj_list : ∀ {a b : List UInt8}, a.map (fun x => (x.toNat : Int)) = b.map (fun x => (x.toNat : Int)) → a = b
  | [], [], _ => rfl
  | x :: a, y :: b, h => by
    simp only [List.map_cons, List.cons.injEq] at h
    rw [toNat_inj_list h.2, UInt8.toNat_inj.1 (by omega : x.toNat = y.toNat)]
  | [], y :: b, h => by simp at h
  | x :: a, [], h => by simp at h

theorem beq_str (s t : ByteArray) : (s.toList == t.toList) = (s.data.toList.map (fun b => (b.toNat : Int)) == t.data.toList.map (fun b => (b.toNat : Int))) := by
  rw [ByteArray.toList_eq, ByteArray.toList_eq, Bool.eq_iff_iff, beq_iff_eq, beq_iff_eq]
  exact ⟨fun h => by rw [h], toNat_inj_list⟩

theorem eqGuard_nilI (op : BinOp) (t : TypeId) (x y : Operand) (u v : Value) (hu : u ≠ .nilIface) (ha : ∀ c, u ≠ .agg c) : eqGuard op t x y u v = pure () := by
  cases op <;> cases u <;> first | rfl | exact absurd rfl hu | exact absurd rfl (ha _)

theorem isBoolT_spec {t : TypeId} (h : isBoolT P t = true) : P.underlying t = some .bool := by
  unfold isBoolT at h; split at h <;> first | assumption | simp at h
theorem isPtrT_spec {t : TypeId} (h : isPtrT P t = true) : ∃ e, P.underlying t = some (.pointer e) := by
  unfold isPtrT at h; split at h <;> first | exact ⟨_, by assumption⟩ | simp at h
theorem isSlT_spec {t : TypeId} (h : isSlT P t = true) : ∃ e, P.underlying t = some (.slice e) := by
  unfold isSlT at h; split at h <;> first | exact ⟨_, by assumption⟩ | simp at h
theorem isFnT_spec {t : TypeId} (h : isFnT P t = true) : ∃ a b c, P.underlying t = some (.func a b c) := by
  unfold isFnT at h; split at h <;> first | exact ⟨_, _, _, by assumption⟩ | simp at h

theorem eqI_p1 {t e : TypeId} (ht : P.underlying t = some (.pointer e)) (d : Nat) (b : Option Addr) (w : World) : (Op.equalIn (d + 1) t (.pointer none) (.pointer b)).run P w = .ok b.isNone w := by
  simp [Op.equalIn, run_underlying ht]
theorem eqI_p2 {t e : TypeId} (ht : P.underlying t = some (.pointer e)) (d : Nat) (b : Addr) (w : World) : (Op.equalIn (d + 1) t (.pointer (some b)) (.pointer none)).run P w = .ok false w := by
  simp [Op.equalIn, run_underlying ht]
theorem eqI_s1 {t e : TypeId} (ht : P.underlying t = some (.slice e)) (d : Nat) (b : Option Addr) (n m n' m' : Nat) (w : World) : (Op.equalIn (d + 1) t (.slice none n m) (.slice b n' m')).run P w = .ok b.isNone w := by
  simp [Op.equalIn, run_underlying ht]
theorem eqI_s2 {t e : TypeId} (ht : P.underlying t = some (.slice e)) (d : Nat) (b : Addr) (n m n' m' : Nat) (w : World) : (Op.equalIn (d + 1) t (.slice (some b) n m) (.slice none n' m')).run P w = .ok false w := by
  simp [Op.equalIn, run_underlying ht]
theorem eqI_f0 {t : TypeId} {a b : Array TypeId} {c : Bool} (ht : P.underlying t = some (.func a b c)) (d : Nat) (w : World) : (Op.equalIn (d + 1) t .nilFunc .nilFunc).run P w = .ok true w := by
  simp [Op.equalIn, run_underlying ht]
theorem eqI_f1 {t : TypeId} {a b : Array TypeId} {c : Bool} (ht : P.underlying t = some (.func a b c)) (d : Nat) (g : Fn) (x y : Array Value) (w : World) : (Op.equalIn (d + 1) t .nilFunc (.func g x y)).run P w = .ok false w := by
  simp [Op.equalIn, run_underlying ht]
theorem eqI_f2 {t : TypeId} {a b : Array TypeId} {c : Bool} (ht : P.underlying t = some (.func a b c)) (d : Nat) (g : Fn) (x y : Array Value) (w : World) : (Op.equalIn (d + 1) t (.func g x y) .nilFunc).run P w = .ok false w := by
  simp [Op.equalIn, run_underlying ht]

theorem eqV_sound {t : TypeId} {v u : V} {y y' : Value} (hv : RVn nx ν v y) (hu : RVn nx ν u y') (hok : (eqV P t v u).1 = true) (x z : Operand) (w : World) (op : BinOp) (hop : op = .eql ∨ op = .neq) :
    (eqGuard op t x z y y').run P w = .ok () w ∧ (Op.equal t y y').run P w = .ok (eqV P t v u).2 w ∧ (∀ k a, y ≠ .int k a) ∧ (∀ a, y ≠ .string a) ∧ (∀ k a, y ≠ .float k a) ∧ (∀ k a b, y ≠ .complex k a b) := by
  have g : ∀ (_ : y ≠ .nilIface) (_ : ∀ c, y ≠ .agg c), (eqGuard op t x z y y').run P w = .ok () w := fun h1 h2 => by rw [eqGuard_nilI _ _ _ _ _ _ h1 h2]; rfl
  replace hv := hv.here
  replace hu := hu.here
  unfold eqV at hok ⊢
  split at hok <;> (try (simp at hok; done))
  · cases hv; cases hu
    have ht := isBoolT_spec hok
    refine ⟨g (by simp) (by simp), ?_, by simp⟩
    exact run_equalIn_bool' w 9999 t _ _ ht
  · cases hv; cases hu
    obtain ⟨e, ht⟩ := isPtrT_spec hok
    refine ⟨g (by simp) (by simp), ?_, by simp⟩
    exact eqI_p1 ht 9999 _ w
  · cases hv; cases hu
    obtain ⟨e, ht⟩ := isPtrT_spec hok
    refine ⟨g (by simp) (by simp), ?_, by simp⟩
    exact eqI_p1 ht 9999 _ w
  · cases hv; cases hu
    obtain ⟨e, ht⟩ := isPtrT_spec hok
    refine ⟨g (by simp) (by simp), ?_, by simp⟩
    exact eqI_p2 ht 9999 _ w
  · cases hv; cases hu
    obtain ⟨e, ht⟩ := isSlT_spec hok
    refine ⟨g (by simp) (by simp), ?_, by simp⟩
    exact eqI_s2 ht 9999 _ _ _ _ _ w
  · cases hv; cases hu
    obtain ⟨e, ht⟩ := isSlT_spec hok
    refine ⟨g (by simp) (by simp), ?_, by simp⟩
    exact eqI_s1 ht 9999 _ _ _ _ _ w
  · cases hv; cases hu
    obtain ⟨e, ht⟩ := isSlT_spec hok
    refine ⟨g (by simp) (by simp), ?_, by simp⟩
    exact eqI_s1 ht 9999 _ _ _ _ _ w
  · cases hv; cases hu
    obtain ⟨e, _, _, ht⟩ := isFnT_spec hok
    refine ⟨g (by simp) (by simp), ?_, by simp⟩
    exact eqI_f0 ht 9999 w
  · cases hv; cases hu
    obtain ⟨e, _, _, ht⟩ := isFnT_spec hok
    refine ⟨g (by simp) (by simp), ?_, by simp⟩
    exact eqI_f1 ht 9999 _ _ _ w
  · cases hv; cases hu
    obtain ⟨e, _, _, ht⟩ := isFnT_spec hok
    refine ⟨g (by simp) (by simp), ?_, by simp⟩
    exact eqI_f2 ht 9999 _ _ _ w
  · rename_i xs ys
    cases hv with
    | ag _ c hc => cases hu with
      | ag _ d hd =>
        cases hs : segsEq xs ys with
        | none => simp [hs] at hok
        | some q =>
          simp only [hs] at hok ⊢
          obtain ⟨h1, h2⟩ := run_equal_ag hs hok hc hd w
          exact ⟨run_eqGuard_agg w op t x z c d h2, h1, by simp⟩

theorem binOp_eq_of {op : BinOp} (hop : op = .eql ∨ op = .neq) {t : TypeId} {y y' : Value} {q : Bool} {w : World} (h1 : ∀ k a, y ≠ .int k a) (h2 : ∀ a, y ≠ .string a) (h3 : ∀ k a, y ≠ .float k a) (h4 : ∀ k a b, y ≠ .complex k a b)
    (hr : (Op.equal t y y').run P w = .ok q w) : (binOp op t y y').run P w = .ok (.bool (if op = .eql then q else !q)) w := by
  rcases hop with rfl | rfl <;> cases y <;> first
    | exact absurd rfl (h1 _ _) | exact absurd rfl (h2 _) | exact absurd rfl (h3 _ _) | exact absurd rfl (h4 _ _ _)
    | (simp only [binOp, Sem.run_bind, hr, Result.andThen_ok, Sem.run_pure]; rfl)

theorem op_binOp (hρ : ∀ x, RVn nx ν (ρ x) (σ x)) (hh : RH nx ν h w) {op : BinOp} {t t' : TypeId} {x z : Operand} (ho : o.op = .binOp op t x z t')
    (hok : (ev1 P ρ h nx (.binOp op t x z t')).ok = true) : Out P r nx ν h w (execOp σ o) (ev1 P ρ h nx (.binOp op t x z t')) := by
  have hx := hρ x
  have hz := hρ z
  simp only [execOp, ho]
  simp only [ev1] at hok ⊢
  generalize ρ x = v at *
  generalize ρ z = u at *
  have quiet : ∀ y : Value, ((do eqGuard op t x z (σ x) (σ z); binOp op t (σ x) (σ z)) : Sem Value).run P w = .ok y w → RVn nx ν (binV P t op v u).2 y →
      Out P r nx ν h w (do pure (.value (← (do eqGuard op t x z (σ x) (σ z); binOp op t (σ x) (σ z))))) ⟨(binV P t op v u).1, (binV P t op v u).2, h, nx⟩ := by
    intro y h1 h2
    exact Out.quiet' hh (by rw [Sem.run_bind, h1]; rfl) h2
  by_cases hi : ∃ k a k' c, v = .i k a ∧ u = .i k' c
  · obtain ⟨k, a, k', c, rfl, rfl⟩ := hi
    have ex := hx.of_i
    have ez := hz.of_i
    rw [ex, ez] at quiet
    rw [ex, ez]
    have hk : op ≠ .shl → op ≠ .shr → k = k' := by
      intro h1 h2
      cases hke : kEq k k' with
      | true => exact kEq_eq hke
      | false => cases op <;> simp [binV, hke] at hok h1 h2
    cases op with
    | shl =>
      have h0 : 0 ≤ c := by simpa [binV] using hok
      refine quiet (.int k (k.wrap (a * 2 ^ (min c.toNat k.bits)))) ?_ (by simp only [binV]; exact rvn_i _ _)
      simp [eqGuard_at_int, binOp, Op.shift]; omega
    | shr =>
      have h0 : 0 ≤ c := by simpa [binV] using hok
      refine quiet (.int k (a.fdiv (2 ^ (min c.toNat k.bits)))) ?_ (by simp only [binV]; exact rvn_i _ _)
      simp [eqGuard_at_int, binOp, Op.shift]; omega
    | _ =>
      all_goals (
        obtain rfl := hk (by simp) (by simp)
        have hkk : kEq k k = true := by cases k <;> rfl
        simp only [binV, hkk, cond_true] at hok quiet ⊢
        refine quiet _ (by
          simp only [Sem.run_bind, eqGuard_at_int, Sem.run_pure, Result.andThen_ok]
          first
            | (simp only [binOp_add, binOp_sub, binOp_mul, Op.intArith, Sem.run_pure]; rfl)
            | (simp only [binOp_and, binOp_or, binOp_xor, binOp_andNot, Op.intBits, Sem.run_pure]; rfl)
            | (simp only [binOp_eql, binOp_neq, binOp_lss, binOp_leq, binOp_gtr, binOp_geq, Sem.run_pure]; rfl)
            | (have h0 : ¬ c = 0 := by simpa using hok
               simp only [binOp_quo, binOp_rem, Op.intDiv, if_neg h0, Sem.run_pure]; rfl)) ?_
        first | exact rvn_i _ _ | exact rvn_b _)
  · by_cases hs : ∃ a c, v = .s a ∧ u = .s c
    · obtain ⟨a, c, rfl, rfl⟩ := hs
      have hx := hx.here
      have hz := hz.here
      generalize σ x = y at *
      generalize σ z = y' at *
      cases hx with
      | s s _ hl => cases hz with
        | s s' _ hl' =>
          cases op <;> simp only [binV] at hok quiet ⊢ <;> (try (simp at hok; done))
          · have e1 : a.length = s.size := by rw [hl, List.length_map]; rfl
            have e2 : c.length = s'.size := by rw [hl', List.length_map]; rfl
            have hle : a.length + c.length ≤ 9223372036854775807 := Nat.le_of_ble_eq_true hok
            refine quiet (.string (s ++ s')) ?_ (rvn_s (by rw [hl, hl', ByteArray.data_append]; simp))
            simp only [eqGuard_add, Sem.run_bind, Sem.run_pure, Result.andThen_ok, binOp, Op.stringOp]
            rw [if_neg (by rw [IntKind.max_i64]; omega)]
            rfl
          · refine quiet (.bool (s.toList == s'.toList)) ?_ (by rw [beq_str, ← hl, ← hl']; exact rvn_b _)
            simp only [eqGuard_at_string, Sem.run_bind, Sem.run_pure, Result.andThen_ok, binOp, Op.stringOp]
          · refine quiet (.bool !(s.toList == s'.toList)) ?_ (by rw [beq_str, ← hl, ← hl']; exact rvn_b _)
            simp only [eqGuard_at_string, Sem.run_bind, Sem.run_pure, Result.andThen_ok, binOp, Op.stringOp]
    · have e : ∀ op, binV P t op v u = (match op with
        | .eql => ((eqV P t v u).1, .b (eqV P t v u).2)
        | .neq => ((eqV P t v u).1, .b !(eqV P t v u).2)
        | _ => (false, .dk) : Bool × V) := by
        intro op
        clear hok quiet ho
        unfold binV
        split
        · exact absurd ⟨_, _, _, _, rfl, rfl⟩ hi
        · exact absurd ⟨_, _, rfl, rfl⟩ hs
        · cases op <;> rfl
      rw [e] at hok quiet ⊢
      cases op <;> (try (simp at hok; done))
      · obtain ⟨g1, g2, g3, g4, g5, g6⟩ := eqV_sound hx hz hok x z w .eql (.inl rfl)
        refine quiet (.bool (eqV P t v u).2) ?_ (rvn_b _)
        rw [Sem.run_bind, g1, Result.andThen_ok, binOp_eq_of (.inl rfl) g3 g4 g5 g6 g2]; rfl
      · obtain ⟨g1, g2, g3, g4, g5, g6⟩ := eqV_sound hx hz hok x z w .neq (.inr rfl)
        refine quiet (.bool !(eqV P t v u).2) ?_ (rvn_b _)
        rw [Sem.run_bind, g1, Result.andThen_ok, binOp_eq_of (.inr rfl) g3 g4 g5 g6 g2]; rfl

end Go.Am
