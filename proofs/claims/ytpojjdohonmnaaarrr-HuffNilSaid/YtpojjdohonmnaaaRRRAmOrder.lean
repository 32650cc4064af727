/-
  A part of an abstract machine that runs a function's text over symbolic values, and of the proof that the machine is sound over the model. No condition.
-/
import Derived.Test.YtpojjdohonmnaaaRRRAmTrace
namespace Go.Am
open Go Go.RowKit

variable {q : Nat} {P : Program} {nx nx' : Nat} {ν ν' : Nm} {h h' : Hp} {w w' : World}

theorem feet_length (X : Nat → Foot) (i : Nat) : ∀ k, (feet X [] i k).length = k
  | 0 => rfl
  | k + 1 => by simp [feet, feet_length X i k]

theorem fits_feet {X : Nat → Foot} {x : Foot} : ∀ {k : Nat}, fits x (feet X [] 0 k) = true → ∀ i, i < k → x.clash (X i) = true → Nat.testBit x.after i = true
  | k + 1, hf, i, hi, hc => by
    simp only [feet, fits, Nat.zero_add, Bool.and_eq_true, Bool.or_eq_true, Bool.not_eq_true', feet_length] at hf
    by_cases e : i = k
    · subst e
      rcases hf.1 with h1 | h1
      · rw [hc] at h1; cases h1
      · exact h1
    · exact fits_feet hf.2 i (by omega) hc

theorem testBit_foldl (bs : List Nat) (i : Nat) : ∀ (es : List Edge) (s : Nat), Nat.testBit (es.foldl (fun s e => bif Region.binds .any e then s ||| 2 ^ e.on ||| bs.getD e.on 0 else s) s) i = true →
    Nat.testBit s i = true ∨ ∃ e ∈ es, Region.binds .any e = true ∧ (e.on = i ∨ Nat.testBit (bs.getD e.on 0) i = true)
  | [], s, hs => .inl hs
  | e :: es, s, hs => by
    rw [List.foldl_cons] at hs
    rcases testBit_foldl bs i es _ hs with h1 | ⟨e', h1, h2⟩
    · cases hb : Region.binds .any e with
      | false => simp only [hb, cond_false] at h1; exact .inl h1
      | true =>
        simp only [hb, cond_true, Nat.testBit_or, Bool.or_eq_true] at h1
        rcases h1 with (h1 | h1) | h1
        · exact .inl h1
        · refine .inr ⟨e, by simp, hb, .inl ?_⟩
          rw [Nat.testBit_two_pow] at h1
          exact of_decide_eq_true h1
        · exact .inr ⟨e, by simp, hb, .inr h1⟩
    · exact .inr ⟨e', List.mem_cons_of_mem _ h1, h2⟩

theorem befores_length : ∀ (l : List Oper) (bs : List Nat), (befores l bs).length = bs.length + l.length
  | [], bs => rfl
  | o :: l, bs => by rw [befores, befores_length l]; simp; omega

theorem befores_old : ∀ (l : List Oper) (bs : List Nat) (i : Nat), i < bs.length → (befores l bs).getD i 0 = bs.getD i 0
  | [], bs, i, hi => rfl
  | o :: l, bs, i, hi => by
    rw [befores, befores_old l _ i (by simp; omega)]
    simp only [List.getD_eq_getElem?_getD]
    rw [List.getElem?_append_left hi]

theorem befores_spec : ∀ (l : List Oper) (bs : List Nat) (k : Nat) (o : Oper), l[k]? = some o → ∀ i, Nat.testBit ((befores l bs).getD (bs.length + k) 0) i = true →
    ∃ e ∈ o.after, Region.binds .any e = true ∧ (e.on = i ∨ (e.on < bs.length + k ∧ Nat.testBit ((befores l bs).getD e.on 0) i = true))
  | [], bs, k, o, ho, i, hi => by simp at ho
  | o' :: l, bs, k, o, ho, i, hi => by
    have hlen : (bs ++ [beforeOf bs o']).length = bs.length + 1 := by simp
    cases k with
    | zero =>
      simp at ho; subst ho
      rw [befores, Nat.add_zero, befores_old l _ _ (by rw [hlen]; omega)] at hi
      have h0 : (bs ++ [beforeOf bs o']).getD bs.length 0 = beforeOf bs o' := by simp [List.getD_eq_getElem?_getD]
      rw [h0, beforeOf] at hi
      rcases testBit_foldl bs i o'.after.toList 0 hi with h1 | ⟨e, h1, h2, h3⟩
      · simp at h1
      · refine ⟨e, Array.mem_toList_iff.1 h1, h2, h3.imp id fun h3 => ?_⟩
        have hlt : e.on < bs.length := by
          rcases Nat.lt_or_ge e.on bs.length with h4 | h4
          · exact h4
          · rw [List.getD_eq_getElem?_getD, List.getElem?_eq_none h4] at h3; simp at h3
        refine ⟨by omega, ?_⟩
        rw [befores, befores_old l _ _ (by rw [hlen]; omega)]
        rw [List.getD_eq_getElem?_getD, List.getElem?_append_left hlt, ← List.getD_eq_getElem?_getD]
        exact h3
    | succ k =>
      have := befores_spec l (bs ++ [beforeOf bs o']) k o (by simpa using ho) i (by rw [hlen, show bs.length + 1 + k = bs.length + (k + 1) by omega]; exact hi)
      obtain ⟨e, h1, h2, h3⟩ := this
      refine ⟨e, h1, h2, h3.imp id fun h3 => ?_⟩
      rw [hlen] at h3
      exact ⟨by omega, h3.2⟩

theorem backOk_spec : ∀ (l : List Oper) (i : Nat), backOk l i = true → ∀ k o, l[k]? = some o → ∀ e ∈ o.after, Region.binds .any e = true → e.on < i + k
  | [], i, _, k, o, ho => by simp at ho
  | o' :: l, i, hb, k, o, ho => by
    simp only [backOk, Bool.and_eq_true] at hb
    intro e he hbd
    cases k with
    | zero =>
      simp at ho; subst ho
      have := List.all_eq_true.1 hb.1 e (Array.mem_toList_iff.2 he)
      simp only [hbd, Bool.not_true, Bool.false_or] at this
      exact Nat.le_of_ble_eq_true this
    | succ k =>
      have := backOk_spec l (i + 1) hb.2 k o (by simpa using ho) e he hbd
      omega

theorem headLen_go : ∀ (l : List Nat), headLen.go l.reverse l.length ≤ l.length ∧ ∀ j, headLen.go l.reverse l.length ≤ j → j < l.length → l.getD j 0 = 2 ^ j - 1 := by
  intro l
  induction hn : l.length generalizing l with
  | zero =>
    have : l = [] := List.eq_nil_of_length_eq_zero hn
    subst this
    exact ⟨Nat.le_refl _, fun j _ hj => absurd hj (by omega)⟩
  | succ n ih =>
    obtain ⟨l', b, rfl⟩ : ∃ l' b, l = l' ++ [b] := ⟨l.dropLast, l.getLast (by intro e; subst e; simp at hn), (List.dropLast_concat_getLast _).symm⟩
    have hl : l'.length = n := by simpa using hn
    rw [List.reverse_append, List.reverse_singleton, List.singleton_append, headLen.go]
    simp only [Nat.add_sub_cancel]
    obtain ⟨h1, h2⟩ := ih l' hl
    cases hb : Nat.beq b (2 ^ n - 1) with
    | true =>
      have hb := Nat.eq_of_beq_eq_true hb
      simp only [cond_true]
      refine ⟨by omega, fun j hj hjn => ?_⟩
      by_cases e : j = n
      · subst e
        rw [List.getD_eq_getElem?_getD, List.getElem?_append_right (by omega)]
        simp [hl, hb]
      · rw [List.getD_eq_getElem?_getD, List.getElem?_append_left (by omega), ← List.getD_eq_getElem?_getD]
        exact h2 j hj (by omega)
    | false =>
      simp only [cond_false]
      exact ⟨Nat.le_refl _, fun j hj hjn => absurd hjn (by omega)⟩

theorem headLen_spec (l : List Nat) : headLen l ≤ l.length ∧ ∀ j, headLen l ≤ j → j < l.length → l.getD j 0 = 2 ^ j - 1 := headLen_go l

/-! listings -/
def On (listed : Array Bool) (i : Nat) : Prop := listed.getD i false = true

theorem On.lt {listed : Array Bool} {i : Nat} (h : On listed i) : i < listed.size := by
  rcases Nat.lt_or_ge i listed.size with h' | h'
  · exact h'
  · simp [On, Array.getD_eq_getD_getElem?, Array.getElem?_eq_none h'] at h

theorem on_set {listed : Array Bool} {i j : Nat} (hj : j < listed.size) : On (listed.setIfInBounds j true) i ↔ i = j ∨ On listed i := by
  unfold On
  by_cases e : i = j
  · subst e; simp [Array.getD_eq_getD_getElem?, hj]
  · rw [Array.getD_eq_getD_getElem?, Array.getElem?_setIfInBounds_ne (fun h => e h.symm), ← Array.getD_eq_getD_getElem?]
    simp [e]

structure Closed (ops : Array Oper) (bs : List Nat) (listed : Array Bool) : Prop where
  size : listed.size = ops.size
  cl : ∀ j, On listed j → ∀ i, Nat.testBit (bs.getD j 0) i = true → On listed i

theorem ready_closed {ops : Array Oper} {listed : Array Bool} (hc : Closed ops (befores ops.toList []) listed) {j : Nat} (hj : j ∈ Region.ready .any ops listed) :
    j < ops.size ∧ ¬ On listed j ∧ ∀ i, Nat.testBit ((befores ops.toList []).getD j 0) i = true → On listed i := by
  obtain ⟨h0, o, ho, hall⟩ := mem_ready.1 hj
  have hjs := (Array.getElem?_eq_some_iff.1 ho).1
  refine ⟨hjs, fun hon => ?_, fun i hi => ?_⟩
  · unfold On at hon
    rw [Array.getD_eq_getD_getElem?] at h0 hon
    cases hg : listed[j]? with
    | none => rw [hg] at h0; simp at h0
    | some b => rw [hg] at h0 hon; simp at h0 hon; rw [h0] at hon; cases hon
  · obtain ⟨e, h1, h2, h3⟩ := befores_spec ops.toList [] j o (by simpa using ho) i (by simpa using hi)
    have hon : On listed e.on := hall e h1 h2
    rcases h3 with rfl | ⟨_, h3⟩
    · exact hon
    · exact hc.cl e.on hon i h3

theorem ready_some {ops : Array Oper} {listed : Array Bool} (hs : listed.size = ops.size) (hb : backOk ops.toList 0 = true) {j : Nat} (hj : j < ops.size) (hn : ¬ On listed j) (hlt : ∀ i, i < j → On listed i) :
    j ∈ Region.ready .any ops listed := by
  refine mem_ready.2 ⟨?_, ops[j], Array.getElem?_eq_getElem hj, fun e he hbd => ?_⟩
  · unfold On at hn
    have hjl : j < listed.size := by omega
    rw [Array.getD_eq_getD_getElem?, Array.getElem?_eq_getElem hjl] at hn ⊢
    simpa using hn
  · have := backOk_spec ops.toList 0 hb j ops[j] (by simp) e he hbd
    exact hlt e.on (by omega)

theorem ready_none {ops : Array Oper} {listed : Array Bool} (hall : ∀ i, i < ops.size → On listed i) : Region.ready .any ops listed = [] := by
  apply List.eq_nil_iff_forall_not_mem.2
  intro j hj
  obtain ⟨h0, o, ho, _⟩ := mem_ready.1 hj
  have := hall j (Array.getElem?_eq_some_iff.1 ho).1
  unfold On at this
  rw [Array.getD_eq_getD_getElem?] at h0 this
  cases hg : listed[j]? with
  | none => rw [hg] at h0; simp at h0
  | some b => rw [hg] at h0 this; simp at h0 this; rw [h0] at this; cases this

theorem least_off {listed : Array Bool} (n : Nat) (h : ¬ ∀ i, i < n → On listed i) : ∃ j, j < n ∧ ¬ On listed j ∧ ∀ i, i < j → On listed i := by
  induction n with
  | zero => exact absurd (fun i hi => absurd hi (by omega)) h
  | succ n ih =>
    by_cases h1 : ∀ i, i < n → On listed i
    · refine ⟨n, by omega, fun hn => h fun i hi => ?_, h1⟩
      by_cases e : i = n
      · exact e ▸ hn
      · exact h1 i (by omega)
    · obtain ⟨j, h2, h3⟩ := ih h1
      exact ⟨j, by omega, h3⟩

def offs (listed : Array Bool) : Nat := listed.toList.count false

theorem offs_set {listed : Array Bool} {j : Nat} (hj : j < listed.size) (hn : ¬ On listed j) : offs (listed.setIfInBounds j true) + 1 = offs listed := by
  unfold offs
  have hv : listed[j] = false := by
    unfold On at hn
    rw [Array.getD_eq_getD_getElem?, Array.getElem?_eq_getElem hj] at hn
    simpa using hn
  rw [Array.toList_setIfInBounds, List.count_set (by simpa using hj)]
  have hpos : 0 < listed.toList.count false := List.count_pos_iff.2 (by rw [← hv]; exact Array.mem_toList_iff.2 (Array.getElem_mem hj))
  have e : listed.toList[j]'(by simpa using hj) = false := by simpa using hv
  rw [e]
  simp only [beq_self_eq_true, if_true]
  have e2 : ((true == false) = true) = False := by decide
  simp only [e2, if_false]
  omega

theorem offs_zero {listed : Array Bool} (h : offs listed = 0) : ∀ i, i < listed.size → On listed i := by
  intro i hi
  unfold offs at h
  have := List.count_eq_zero.1 h
  unfold On
  rw [Array.getD_eq_getD_getElem?, Array.getElem?_eq_getElem hi]
  cases hv : listed[i] with
  | true => rfl
  | false => exact absurd (by rw [← hv]; exact Array.mem_toList_iff.2 (Array.getElem_mem hi)) this

/-- the rest, in the text's order -/
theorem wpAny_tail {ops : Array Oper} {Q : Exit → Act → World → Prop} (hb : backOk ops.toList 0 = true) {t : Nat} (ht : ∀ j, t ≤ j → j < ops.size → (befores ops.toList []).getD j 0 = 2 ^ j - 1) :
    ∀ (fuel : Nat) (listed : Array Bool) (j : Nat) (a : Act) (w : World), offs listed ≤ fuel → Closed ops (befores ops.toList []) listed → t ≤ j → (∀ i, i < j → i < ops.size → On listed i) → (∀ i, j ≤ i → ¬ On listed i) →
      wpOps P ops Q (List.range' j (ops.size - j)) a w → wpAny P .any ops Q fuel listed a w := by
  intro fuel
  induction fuel with
  | zero =>
    intro listed j a w hf hc htj hlo hhi hw
    have hall := offs_zero (Nat.le_zero.1 hf)
    have hj : ops.size ≤ j := by
      rcases Nat.lt_or_ge j ops.size with h1 | h1
      · exact absurd (hall j (by rw [hc.size]; exact h1)) (hhi j (Nat.le_refl _))
      · exact h1
    rw [show ops.size - j = 0 by omega] at hw
    exact ⟨ready_none fun i hi => hall i (by rw [hc.size]; exact hi), hw⟩
  | succ fuel ih =>
    intro listed j a w hf hc htj hlo hhi hw
    rcases Nat.lt_or_ge j ops.size with hj | hj
    · have hr := ready_some hc.size hb hj (hhi j (Nat.le_refl _)) (fun i hi => hlo i hi (by omega))
      refine ⟨fun e => (by rw [e] at hr; cases hr), fun i hi => ?_⟩
      obtain ⟨h1, h2, h3⟩ := ready_closed hc hi
      have hij : i = j := by
        rcases Nat.lt_trichotomy i j with h4 | h4 | h4
        · exact absurd (hlo i h4 h1) h2
        · exact h4
        · refine absurd (h3 j ?_) (hhi j (Nat.le_refl _))
          rw [ht i (by omega) h1, Nat.testBit_two_pow_sub_one]
          exact decide_eq_true h4
      subst hij
      rw [show ops.size - i = (ops.size - (i + 1)) + 1 by omega, List.range'_succ, wpOps_cons] at hw
      refine wpOp_mono (fun a w hk => ?_) hw
      have hil : i < listed.size := by rw [hc.size]; exact h1
      refine ih (listed.setIfInBounds i true) (i + 1) a w ?_ ⟨by simpa using hc.size, fun k hk m hm => ?_⟩ (by omega) (fun m hm hms => ?_) (fun m hm => ?_) hk
      · have := offs_set hil h2; omega
      · rw [on_set hil] at hk ⊢
        rcases hk with rfl | hk
        · exact .inr (h3 m hm)
        · exact .inr (hc.cl k hk m hm)
      · rw [on_set hil]
        by_cases e : m = i
        · exact .inl e
        · exact .inr (hlo m (by omega) hms)
      · rw [on_set hil]
        rintro (e | e)
        · omega
        · exact hhi m (by omega) e
    · rw [show ops.size - j = 0 by omega] at hw
      have hnone : Region.ready .any ops listed = [] := ready_none fun i hi => hlo i (by omega) hi
      exact ⟨fun _ => hw, by rw [hnone]; simp⟩

end Go.Am
