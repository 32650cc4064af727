/-
  A part of an abstract machine that runs a function's text over symbolic values, and of the proof that the machine is sound over the model. No condition.
-/
import Derived.Test.YtpojjdohonmnaaaRRRAmOps8
import Derived.Laws.Append
namespace Go.Am
open Go Go.RowKit

variable {P : Program} {nx : Nat} {r : Nat → Prop} {ν : Nm} {h : Hp} {w : World} {ρ : Operand → V} {σ : Operand → Value} {o : Oper}

theorem RC.append {ν : Nm} : ∀ {cs ds : List Seg} {ys zs : List Value}, RC ν cs ys → RC ν ds zs → RC ν (cs ++ ds) (ys ++ zs)
  | [], _, _, _, h, h' => by cases h; exact h'
  | s :: cs, _, _, _, h, h' => by
    cases h with
    | cons _ _ ys zs hs h => rw [List.append_assoc]; exact .cons _ _ _ _ hs (h.append h')

theorem one_vs {ν : Nm} {l : List V} {ys : List Value} (h : RC ν [.vs l] ys) : RL ν l ys ∧ ∀ y ∈ ys, y.oneCell' = true := by
  have := h.of_single
  cases this with
  | vs _ _ h1 h2 => exact ⟨h1, h2⟩

theorem one_fam {ν : Nm} {n : Nat} {g : Nat → V} {ys : List Value} (h : RC ν [.fam n g] ys) : ys.length = n ∧ (∀ i y, ys[i]? = some y → RV ν (g i) y) ∧ ∀ y ∈ ys, y.oneCell' = true := by
  have := h.of_single
  cases this with
  | fam _ _ _ h1 h2 h3 => exact ⟨h1, h2, h3⟩

theorem join_sound {ν : Nm} {cs ds : List Seg} {ys zs : List Value} (h : RC ν cs ys) (h' : RC ν ds zs) : RC ν (join cs ds) (ys ++ zs) := by
  unfold join
  split
  · cases h; exact h'
  · rename_i k n xs k' m us
    obtain ⟨e1, e2⟩ := one_ints h
    obtain ⟨e3, e4⟩ := one_ints h'
    cases hk : kEq k k' with
    | true =>
      obtain rfl := kEq_eq hk
      subst e1 e2 e3 e4
      exact RC.single (.ints _ _ _ _ (by simp) (by simp))
    | false => exact RC.append h h'
  · obtain ⟨h1, h2⟩ := one_vs h
    obtain ⟨h3, h4⟩ := one_vs h'
    exact RC.single (.vs _ _ (h1.append h3) (fun y hy => (List.mem_append.1 hy).elim (h2 y) (h4 y)))
  · rename_i n g v
    obtain ⟨hn, hg, ho⟩ := one_fam h
    obtain ⟨h3, h4⟩ := one_vs h'
    have hz : ∃ y, zs = [y] ∧ RV ν v y := by
      cases h3 with
      | cons _ y _ us hv h5 => cases h5; exact ⟨y, rfl, hv⟩
    obtain ⟨y, rfl, hv⟩ := hz
    refine RC.single (.fam _ _ _ (by simp [hn]) (fun i u hu => ?_) (fun u hu => (List.mem_append.1 hu).elim (ho u) (h4 u)))
    by_cases hi : i < ys.length
    · rw [List.getElem?_append_left hi] at hu
      have : Nat.beq i n = false := by
        cases hb : Nat.beq i n with
        | false => rfl
        | true => have := Nat.eq_of_beq_eq_true hb; omega
      rw [this]; exact hg _ _ hu
    · rw [List.getElem?_append_right (by omega)] at hu
      have hi0 : i - ys.length = 0 := by
        rcases Nat.eq_zero_or_pos (i - ys.length) with h0 | h0
        · exact h0
        · rw [List.getElem?_eq_none (by simp; omega)] at hu; simp at hu
      rw [hi0] at hu
      simp at hu
      have : Nat.beq i n = true := by rw [Nat.beq_eq]; omega
      rw [this, ← hu]; exact hv
  · exact RC.append h h'

theorem lenOf_run {v : V} {y : Value} {n : Nat} (hv : RV ν v y) (hn : alen v = some n) (w : World) : (Builtin.lenOf y).run P w = .ok n w := by
  cases hv <;> simp [alen] at hn <;> subst hn
  · rename_i s l hl
    have : l.length = s.size := by rw [hl, List.length_map]; rfl
    rw [this]; rfl
  · rfl
  · rfl
  · rfl
  · rename_i h; subst h; rfl

/-- the first elements of a slice, or a text -/
theorem content_run {v : V} {y : Value} {n k sz : Nat} (hv : RVn nx ν v y) (hh : RH nx ν h w) (hn : alen v = some n) (hk : k ≤ n) (hok : (contentN h sz k v).1 = true) :
    ∃ zs : List Value, (Builtin.firstCells sz k y).run P w = .ok zs.toArray w ∧ RCn nx ν (contentN h sz k v).2 zs ∧ zs.length = k * sz := by
  have hv0 := hv.here
  cases hv0 <;> (try (simp [alen] at hn; done))
  · rename_i s l hl
    simp only [contentN, Bool.and_eq_true] at hok ⊢
    simp [alen] at hn
    have hsz : sz = 1 := by simpa using hok.1
    subst hsz
    have hls : l.length = s.size := by rw [hl, List.length_map]; rfl
    refine ⟨(l.take k).map (Value.int .u8), ?_, fun ν' _ => RC.single (.ints _ _ _ _ ?_ ?_), by simp; omega⟩
    · simp only [Builtin.firstCells, Sem.run_pure]
      congr 1
      apply Array.ext'
      rw [Array.toList_map, ByteArray.data_extract, Array.toList_extract, List.extract_eq_take_drop, hl]
      simp [List.map_take]
      rfl
    · rw [sub_eq rfl]; simp; omega
    · rw [sub_eq rfl]; simp
  · simp [alen] at hn
    simp only [contentN] at hok ⊢
    have : k = 0 := by simpa using hok
    subst this
    exact ⟨[], rfl, fun _ _ => .nil, by simp⟩
  · rename_i a b sz' off len cap h1 h2 h3
    simp [alen] at hn
    subst hn
    simp only [contentN] at hok ⊢
    cases hg : hget h a.n with
    | none => simp [hg] at hok
    | some cs =>
      simp only [hg, mulw_eq] at hok ⊢
      obtain ⟨c, e, fr, ys, hb, hs, hf, hc, zs, he⟩ := hh.read hg h1
      obtain ⟨r1, r2⟩ := rdR_sound a.o a.d (k * sz) hc.here hok
      have hlen : ys.length ≤ c.size := by rw [← Array.length_toList, he]; simp
      have hoff : k * sz = 0 ∨ off = a.d + a.o := by
        rcases h3 with h3 | h3
        · exact .inr h3
        · left; have : k = 0 := by omega
          subst this; simp
      refine ⟨(c.toList.drop off).take (k * sz), ?_, fun ν' ha => ?_, ?_⟩
      · simp only [Builtin.firstCells]
        exact run_loadCells_row hb (by omega)
      · rcases hoff with h0 | h0
        · rw [h0] at hok ⊢
          have := RCn_rdR hc hok ν' ha
          simpa using this
        · rw [h0, take_drop_prefix he r1]; exact RCn_rdR hc hok ν' ha
      · simp only [List.length_take, List.length_drop, Array.length_toList]; omega
  · rename_i a b sz' off w' len cap h1 h2 h3 h4
    simp [alen] at hn
    subst hn
    simp only [contentN] at hok ⊢
    cases hg : hget h a.n with
    | none => simp [hg] at hok
    | some cs =>
      simp only [hg, mulw_eq] at hok ⊢
      obtain ⟨c, e, fr, ys, hb, hs, hf, hc, zs, he⟩ := hh.read hg h1
      obtain ⟨r1, r2⟩ := rdR_sound a.o a.d (k * sz) hc.here hok
      have hlen : ys.length ≤ c.size := by rw [← Array.length_toList, he]; simp
      have hoff : k * sz = 0 ∨ off = a.d + a.o := by
        rcases h3 with h3 | h3
        · exact .inr h3
        · left; have : k = 0 := by omega
          subst this; simp
      refine ⟨(c.toList.drop off).take (k * sz), ?_, fun ν' ha => ?_, ?_⟩
      · simp only [Builtin.firstCells]
        exact run_loadCells_row hb (by omega)
      · rcases hoff with h0 | h0
        · rw [h0] at hok ⊢
          have := RCn_rdR hc hok ν' ha
          simpa using this
        · rw [h0, take_drop_prefix he r1]; exact RCn_rdR hc hok ν' ha
      · simp only [List.length_take, List.length_drop, Array.length_toList]; omega
  · rename_i a w' len h1 h2
    simp [alen] at hn
    subst hn h2
    have hk0 : k = 0 := by omega
    subst hk0
    simp only [contentN] at hok ⊢
    cases hg : hget h a.n with
    | none => simp [hg] at hok
    | some cs =>
      simp only [hg, mulw_eq, Nat.zero_mul] at hok ⊢
      refine ⟨[], rfl, fun ν' ha => ?_, by simp⟩
      have := RCn_rdR (hh.nil _ _ hg h1) hok ν' ha
      simpa using this

/-! the builtins -/
theorem builtin_run {c : Call} {b : Builtin} (ho : o.op = .call c) (hb : c.callee = .builtin b) (σ : Operand → Value) (w : World) :
    ∃ cs, (execOp σ o).run P w = (builtin b c.argTypes o.type cs (c.args.map σ)).run P w :=
  ⟨_, by simp only [execOp, ho, Sem.run_bind, resolve, hb, Sem.run_pure, Result.andThen_ok, invoke]; rfl⟩

theorem Out.congr {s s' : Sem Next} {q : Res} (hs : s.run P w = s'.run P w) (h0 : Out P r nx ν h w s' q) : Out P r nx ν h w s q := by
  obtain ⟨n, y, w', ν', h1, h2⟩ := h0
  exact ⟨n, y, w', ν', by rw [hs]; exact h1, h2⟩

theorem args_one {c : Call} (hρ : ∀ x, RVn nx ν (ρ x) (σ x)) {v : V} (h0 : (c.args[0]?).map ρ = some v) : ∃ y, (c.args.map σ)[0]? = some y ∧ RVn nx ν v y := by
  cases ha : c.args[0]? with
  | none => simp [ha] at h0
  | some x =>
    simp [ha] at h0
    subst h0
    exact ⟨σ x, by simp [ha], hρ x⟩

theorem args_two {c : Call} (hρ : ∀ x, RVn nx ν (ρ x) (σ x)) {v u : V} (h0 : c.args.toList.map ρ = [v, u]) : ∃ y z, (c.args.map σ).toList = [y, z] ∧ RVn nx ν v y ∧ RVn nx ν u z := by
  match hl : c.args.toList, h0 with
  | [a, b], h0 =>
    simp at h0
    obtain ⟨rfl, rfl⟩ := h0
    exact ⟨σ a, σ b, by simp [hl], hρ a, hρ b⟩

theorem op_len (hρ : ∀ x, RVn nx ν (ρ x) (σ x)) (hh : RH nx ν h w) {c : Call} (ho : o.op = .call c) (hb : c.callee = .builtin .len)
    (hok : (ev1 P ρ h nx (.call c)).ok = true) : Out P r nx ν h w (execOp σ o) (ev1 P ρ h nx (.call c)) := by
  obtain ⟨cs, hrun⟩ := builtin_run (P := P) ho hb σ w
  refine Out.congr hrun ?_
  simp only [ev1, hb] at hok ⊢
  cases h0 : (c.args[0]?).map ρ with
  | none => simp [h0, bad] at hok
  | some v =>
    obtain ⟨y, hy, hv⟩ := args_one hρ h0
    simp only [h0] at hok ⊢
    cases hn : alen v with
    | none => simp [hn, bad] at hok
    | some n =>
      simp only [hn] at hok ⊢
      refine Out.quiet' (y := .int .i64 n) hh ?_ (rvn_i _ _)
      unfold lenTy at hok
      cases ht : c.argTypes[0]? with
      | none => simp [ht] at hok
      | some t =>
        simp only [ht] at hok
        simp only [builtin, Sem.run_bind, Builtin.len_, ht, hy]
        cases hu : P.underlying t with
        | none => simp [hu] at hok
        | some d =>
          have hv0 := hv.here
          cases d <;> cases hv0 <;> simp only [hu] at hok <;> (try (simp at hok; done)) <;> simp [alen] at hn <;> (try subst hn) <;>
            simp only [Sem.run_bind, run_underlying hu, Result.andThen_ok, Sem.run_pure, goInt]
          · rename_i s l hl
            rw [hl, List.length_map]; rfl
          · rename_i h1 h2; subst h2; rfl

theorem op_cap (hρ : ∀ x, RVn nx ν (ρ x) (σ x)) (hh : RH nx ν h w) {c : Call} (ho : o.op = .call c) (hb : c.callee = .builtin .cap)
    (hok : (ev1 P ρ h nx (.call c)).ok = true) : Out P r nx ν h w (execOp σ o) (ev1 P ρ h nx (.call c)) := by
  obtain ⟨cs, hrun⟩ := builtin_run (P := P) ho hb σ w
  refine Out.congr hrun ?_
  simp only [ev1, hb] at hok ⊢
  cases h0 : (c.args[0]?).map ρ with
  | none => simp [h0, bad] at hok
  | some v =>
    obtain ⟨y, hy, hv⟩ := args_one hρ h0
    cases v <;> simp only [h0] at hok ⊢ <;> try (simp [bad] at hok; done)
    rename_i a len cap
    refine Out.quiet' (y := .int .i64 cap) hh ?_ (rvn_i _ _)
    unfold lenTy at hok
    cases ht : c.argTypes[0]? with
    | none => simp [ht] at hok
    | some t =>
      simp only [ht] at hok
      simp only [builtin, Sem.run_bind, Builtin.cap_, ht, hy]
      cases hu : P.underlying t with
      | none => simp [hu] at hok
      | some d =>
        have hv0 := hv.here
        cases d <;> cases hv0 <;> simp only [hu] at hok <;> (try (simp at hok; done)) <;>
          simp only [Sem.run_bind, run_underlying hu, Result.andThen_ok, Sem.run_pure, goInt]

theorem op_max (hρ : ∀ x, RVn nx ν (ρ x) (σ x)) (hh : RH nx ν h w) {c : Call} (ho : o.op = .call c) (hb : c.callee = .builtin .max)
    (hok : (ev1 P ρ h nx (.call c)).ok = true) : Out P r nx ν h w (execOp σ o) (ev1 P ρ h nx (.call c)) := by
  obtain ⟨cs, hrun⟩ := builtin_run (P := P) ho hb σ w
  refine Out.congr hrun ?_
  simp only [ev1, hb] at hok ⊢
  split at hok
  · rename_i k a k' b heq
    obtain ⟨y, z, hyz, hy, hz⟩ := args_two hρ heq
    rw [hy.of_i, hz.of_i] at hyz
    refine Out.quiet' (y := .int k (if b > a then b else a)) hh ?_ (rvn_i _ _)
    simp only [builtin, Sem.run_bind, Builtin.max_, hyz, List.foldlM_cons, List.foldlM_nil, Builtin.max2, Sem.run_pure, Result.andThen_ok]
  · simp [bad] at hok

theorem op_min (hρ : ∀ x, RVn nx ν (ρ x) (σ x)) (hh : RH nx ν h w) {c : Call} (ho : o.op = .call c) (hb : c.callee = .builtin .min)
    (hok : (ev1 P ρ h nx (.call c)).ok = true) : Out P r nx ν h w (execOp σ o) (ev1 P ρ h nx (.call c)) := by
  obtain ⟨cs, hrun⟩ := builtin_run (P := P) ho hb σ w
  refine Out.congr hrun ?_
  simp only [ev1, hb] at hok ⊢
  split at hok
  · rename_i k a k' b heq
    obtain ⟨y, z, hyz, hy, hz⟩ := args_two hρ heq
    rw [hy.of_i, hz.of_i] at hyz
    refine Out.quiet' (y := .int k (if b < a then b else a)) hh ?_ (rvn_i _ _)
    simp only [builtin, Sem.run_bind, Builtin.min_, hyz, List.foldlM_cons, List.foldlM_nil, Builtin.min2, Sem.run_pure, Result.andThen_ok]
  · simp [bad] at hok

end Go.Am
