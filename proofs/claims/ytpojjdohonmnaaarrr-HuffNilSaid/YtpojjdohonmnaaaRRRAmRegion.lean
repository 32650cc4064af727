/-
  A part of an abstract machine that runs a function's text over symbolic values, and of the proof that the machine is sound over the model. No condition.
-/
import Derived.Test.YtpojjdohonmnaaaRRRAmOrder
namespace Go.Am
open Go Go.RowKit

section
variable {q : Nat} {P : Program} {ops : Array Oper} {sz : Nat} {l : List Oper} {X : Nat → Foot} {F : Nat → Fr} {H : Nat → Hp} {N : Nat → Nat}

abbrev Tr (P : Program) (q : Nat) (ops : Array Oper) (sz : Nat) (l : List Oper) (X : Nat → Foot) (F : Nat → Fr) (H : Nat → Hp) (N : Nat → Nat) : Prop :=
  Trace P q ops sz (befores ops.toList []) l 0 [] X F H N

theorem Tr.at (ht : Tr P q ops sz l X F H N) {j : Nat} (hj : j < l.length) : StepOk P q ops sz j l[j] (X j) (F j) (H j) (N j) (F (j + 1)) (H (j + 1)) (N (j + 1)) := by
  have := ht.step j l[j] (List.getElem?_eq_getElem hj)
  simpa using this

theorem Tr.clash (ht : Tr P q ops sz l X F H N) {i j : Nat} (hij : i < j) (hj : j < l.length) (hc : (X j).clash (X i) = true) : Nat.testBit ((befores ops.toList []).getD j 0) i = true := by
  have h1 := ht.fits j hj
  have h2 := ht.after j hj
  simp only [Nat.zero_add] at h1 h2
  rw [← h2]
  exact fits_feet h1 i hij hc

theorem Tr.mono (ht : Tr P q ops sz l X F H N) : ∀ {k k' : Nat}, k ≤ k' → k' ≤ l.length → N k ≤ N k' := by
  intro k k' hk hk'
  induction k' with
  | zero => rw [Nat.le_zero.1 hk]; exact Nat.le_refl _
  | succ m ih =>
    rcases Nat.lt_or_ge m k with h1 | h1
    · rw [show k = m + 1 by omega]; exact Nat.le_refl _
    · exact Nat.le_trans (ih h1 (by omega)) (ht.at (by omega)).le

theorem Tr.slot (ht : Tr P q ops sz l X F H N) {s : Nat} : ∀ {k k' : Nat}, k ≤ k' → k' ≤ l.length → (∀ i, k ≤ i → i < k' → (X i).wt ≠ some s) → get (F k') s = get (F k) s := by
  intro k k' hk hk' hn
  induction k' with
  | zero => rw [Nat.le_zero.1 hk]
  | succ m ih =>
    rcases Nat.lt_or_ge m k with h1 | h1
    · rw [show k = m + 1 by omega]
    · rw [(ht.at (by omega)).frame s (hn m h1 (by omega))]
      exact ih h1 (by omega) fun i h2 h3 => hn i h2 (by omega)

theorem Tr.name (ht : Tr P q ops sz l X F H N) {n : Nat} : ∀ {k k' : Nat}, k ≤ k' → k' ≤ l.length → (∀ i, k ≤ i → i < k' → n ∉ (X i).wn) → hget (H k') n = hget (H k) n := by
  intro k k' hk hk' hn
  induction k' with
  | zero => rw [Nat.le_zero.1 hk]
  | succ m ih =>
    rcases Nat.lt_or_ge m k with h1 | h1
    · rw [show k = m + 1 by omega]
    · rw [(ht.at (by omega)).heap n (hn m h1 (by omega))]
      exact ih h1 (by omega) fun i h2 h3 => hn i h2 (by omega)

theorem Tr.lt (ht : Tr P q ops sz l X F H N) (h0 : ∀ n cs, hget (H 0) n = some cs → n < N 0) : ∀ {k : Nat}, k ≤ l.length → ∀ n cs, hget (H k) n = some cs → n < N k := by
  intro k hk
  induction k with
  | zero => exact h0
  | succ m ih => exact (ht.at (by omega)).lt (ih (by omega))

/-- the slot's writers that have run are those ahead of k -/
def Mt (l : List Oper) (X : Nat → Foot) (on : Nat → Prop) (s k : Nat) : Prop := ∀ i, i < l.length → (X i).wt = some s → (on i ↔ i < k)
def Mn (l : List Oper) (X : Nat → Foot) (on : Nat → Prop) (n k : Nat) : Prop := ∀ i, i < l.length → n ∈ (X i).wn → (on i ↔ i < k)

theorem Mn.same (ht : Tr P q ops sz l X F H N) {on : Nat → Prop} {n k k' : Nat} (h : Mn l X on n k) (h' : Mn l X on n k') (hk : k ≤ l.length) (hk' : k' ≤ l.length) : hget (H k) n = hget (H k') n := by
  rcases Nat.le_total k k' with h1 | h1
  · refine (ht.name h1 hk' fun i h2 h3 hi => ?_).symm
    have := (h' i (by omega) hi).2 h3
    have := (h i (by omega) hi).1 this
    omega
  · refine ht.name h1 hk fun i h2 h3 hi => ?_
    have := (h i (by omega) hi).2 h3
    have := (h' i (by omega) hi).1 this
    omega

structure Inv (q : Nat) (ops : Array Oper) (sz : Nat) (l : List Oper) (X : Nat → Foot) (F : Nat → Fr) (H : Nat → Hp) (N : Nat → Nat) (ν0 : Nm) (w0 : World) (listed : Array Bool) (a : Act) (w : World) (ν : Nm) : Prop where
  cl : Closed ops (befores ops.toList []) listed
  hi : ∀ i, l.length ≤ i → ¬ On listed i
  asz : sz ≤ a.tmps.size
  adef : a.defers = []
  agr : Agr (N 0) ν0 ν
  kn : ∀ n p, ν n = some p → n < N 0 ∨ ∃ i, i < l.length ∧ On listed i ∧ N i ≤ n ∧ n < N (i + 1)
  sl : ∀ s k, k ≤ l.length → Mt l X (On listed) s k → RVn (N k) ν (get (F k) s) (a.tmps.getD s undef)
  hb : ∀ n k, k ≤ l.length → Mn l X (On listed) n k → ∀ cs, hget (H k) n = some cs →
    (∀ b z, ν n = some (some (b, z)) → ∃ c e fr, w.heap[b]? = some (.cells c e fr) ∧ c.size = z ∧ Free fr z ∧ ∃ ys zs, c.toList = ys ++ zs ∧ RCn (N k) ν cs ys) ∧ (ν n = some none → RCn (N k) ν cs [])
  inj : ∀ n m k k' cs cs' b z z', k ≤ l.length → k' ≤ l.length → Mn l X (On listed) n k → Mn l X (On listed) m k' → hget (H k) n = some cs → hget (H k') m = some cs' →
    ν n = some (some (b, z)) → ν m = some (some (b, z')) → n = m
  os : w.os = w0.os
  tape : w.tape = w0.tape
  output : w.output = w0.output
  size : w0.heap.size ≤ w.heap.size
  old : ∀ b, b < w0.heap.size → (∀ n cs z, hget (H 0) n = some cs → q ≤ n → ν0 n ≠ some (some (b, z))) → w.heap[b]? = w0.heap[b]?
  new : ∀ n k cs b z, k ≤ l.length → Mn l X (On listed) n k → hget (H k) n = some cs → q ≤ n → ν n = some (some (b, z)) →
    w0.heap.size ≤ b ∨ ∃ m cs' z', hget (H 0) m = some cs' ∧ q ≤ m ∧ ν0 m = some (some (b, z'))

theorem Inv.start (ht : Tr P q ops sz l X F H N) {ν0 : Nm} {w0 w : World} {a : Act} (hR : RA (N 0) ν0 sz (F 0) a) (hh : RH (N 0) ν0 (H 0) w) (hl : l.length ≤ ops.size) (hw : w.heap = w0.heap) (ho : w.os = w0.os) (htp : w.tape = w0.tape) (hu : w.output = w0.output) :
    Inv q ops sz l X F H N ν0 w0 (Array.replicate ops.size false) a w (cut (N 0) ν0) := by
  have hoff : ∀ i, ¬ On (Array.replicate ops.size false) i := by
    intro i h
    have hlt := h.lt
    unfold On at h
    rw [Array.getD_eq_getD_getElem?, Array.getElem?_eq_getElem hlt] at h
    simp at h
  have hslot : ∀ s k, k ≤ l.length → Mt l X (On (Array.replicate ops.size false)) s k → get (F k) s = get (F 0) s := by
    intro s k hk hm
    refine ht.slot (Nat.zero_le _) hk fun i _ hi e => ?_
    exact hoff i ((hm i (by omega) e).2 hi)
  have hname : ∀ n k, k ≤ l.length → Mn l X (On (Array.replicate ops.size false)) n k → hget (H k) n = hget (H 0) n := by
    intro n k hk hm
    refine ht.name (Nat.zero_le _) hk fun i _ hi e => ?_
    exact hoff i ((hm i (by omega) e).2 hi)
  have hag : Agr (N 0) ν0 (cut (N 0) ν0) := agr_cut _ _
  have hcut : ∀ n p, cut (N 0) ν0 n = some p → n < N 0 ∧ ν0 n = some p := by
    intro n p hp
    unfold cut at hp
    split at hp
    · rename_i h1; exact ⟨h1, hp⟩
    · cases hp
  refine ⟨⟨by simp, fun j hj => absurd hj (hoff j)⟩, fun i _ => hoff i, hR.size, hR.defers, hag, fun n p hp => .inl (hcut n p hp).1, fun s k hk hm => ?_, fun n k hk hm cs hcs => ?_,
    fun n m k k' cs cs' b z z' hk hk' hm hm' h1 h2 h3 h4 => ?_, ho, htp, hu, by rw [hw]; exact Nat.le_refl _, fun b hb _ => by rw [hw], fun n k cs b z hk hm h1 h2 h3 => ?_⟩
  · rw [hslot s k hk hm]
    exact (hR.slot s).mono hag (ht.mono (Nat.zero_le _) hk)
  · rw [hname n k hk hm] at hcs
    constructor
    · intro b z hν
      obtain ⟨c, e, fr, h1, h2, h3, ys, zs, h4, h5⟩ := hh.blk n cs b z hcs (hcut _ _ hν).2
      exact ⟨c, e, fr, h1, h2, h3, ys, zs, h4, h5.mono hag (ht.mono (Nat.zero_le _) hk)⟩
    · intro hν
      exact (hh.nil n cs hcs (hcut _ _ hν).2).mono hag (ht.mono (Nat.zero_le _) hk)
  · rw [hname n k hk hm] at h1
    rw [hname m k' hk' hm'] at h2
    exact hh.inj n m cs cs' b z z' h1 h2 (hcut _ _ h3).2 (hcut _ _ h4).2
  · rw [hname n k hk hm] at h1
    exact .inr ⟨n, cs, z, h1, h2, (hcut _ _ h3).2⟩

end
end Go.Am
