/-
  A part of an abstract machine that runs a function's text over symbolic values, and of the proof that the machine is sound over the model. No condition.
-/
import Derived.Test.YtpojjdohonmnaaaRRRAmRegion
namespace Go.Am
open Go Go.RowKit

section
variable {q : Nat} {P : Program} {ops : Array Oper} {sz : Nat} {l : List Oper} {X : Nat → Foot} {F : Nat → Fr} {H : Nat → Hp} {N : Nat → Nat}

theorem Inv.next (ht : Tr P q ops sz l X F H N) (hl0 : ∀ n cs, hget (H 0) n = some cs → n < N 0) {ν0 : Nm} {w0 : World} {listed : Array Bool} {a : Act} {w : World} {ν : Nm} (hI : Inv q ops sz l X F H N ν0 w0 listed a w ν) {j : Nat} (hj : j < l.length)
    (hr : j ∈ Region.ready .any ops listed) {next : Act → World → Prop} {Q : Exit → Act → World → Prop}
    (hK : ∀ a' w' ν', Inv q ops sz l X F H N ν0 w0 (listed.setIfInBounds j true) a' w' ν' → next a' w') : wpOp P ops Q j next a w := by
  obtain ⟨hjs, hoff, hbef⟩ := ready_closed hI.cl hr
  have hjl : j < listed.size := by rw [hI.cl.size]; exact hjs
  have hst := ht.at hj
  -- which of those that clash have run
  have hcl : ∀ i, i < l.length → (X i).clash (X j) = true → (X j).clash (X i) = true → (On listed i ↔ i < j) := by
    intro i hi h1 h2
    rcases Nat.lt_trichotomy i j with h3 | h3 | h3
    · exact ⟨fun _ => h3, fun _ => hbef i (ht.clash h3 hj h2)⟩
    · subst h3; exact ⟨fun h => absurd h hoff, fun h => absurd h (by omega)⟩
    · exact ⟨fun h => absurd (hI.cl.cl i h j (ht.clash h3 hi h1)) hoff, fun h => absurd h (by omega)⟩
  have hslot : ∀ s, s ∈ (X j).rt ∨ (X j).wt = some s → Mt l X (On listed) s j := by
    intro s hs i hi hw
    obtain ⟨h1, h2⟩ := Foot.clash_slot (a := X i) (b := X j) hw hs
    exact hcl i hi h1 h2
  have hname : ∀ n, n ∈ (X j).rn ∨ n ∈ (X j).wn → Mn l X (On listed) n j := by
    intro n hs i hi hw
    obtain ⟨h1, h2⟩ := Foot.clash_name (a := X i) (b := X j) hw hs
    exact hcl i hi h1 h2
  have hjle : j ≤ l.length := by omega
  have hmk : ∀ n cs, hget (mask (H j) ((X j).rn ++ (X j).wn)) n = some cs → (n ∈ (X j).rn ∨ n ∈ (X j).wn) ∧ hget (H j) n = some cs := by
    intro n cs hn
    rw [hget_mask] at hn
    split at hn
    · rename_i h1; exact ⟨List.mem_append.1 h1, hn⟩
    · cases hn
  have hRH : RH (N j) ν (mask (H j) ((X j).rn ++ (X j).wn)) w := by
    refine ⟨fun n cs hn => ht.lt hl0 hjle n cs (hmk n cs hn).2, fun n cs b z hn hν => ?_, fun n cs hn hν => ?_, fun n m cs cs' b z z' hn hm h1 h2 => ?_⟩
    · obtain ⟨h1, h2⟩ := hmk n cs hn
      exact (hI.hb n j hjle (hname n h1) cs h2).1 b z hν
    · obtain ⟨h1, h2⟩ := hmk n cs hn
      exact (hI.hb n j hjle (hname n h1) cs h2).2 hν
    · obtain ⟨h3, h4⟩ := hmk n cs hn
      obtain ⟨h5, h6⟩ := hmk m cs' hm
      exact hI.inj n m j j cs cs' b z z' hjle hjle (hname n h3) (hname m h5) h4 h6 h1 h2
  refine hst.exec a w ν (fun s hs => hI.sl s j hjle (hslot s (.inl hs))) hI.asz hI.adef hRH next Q fun y ν' w' hA hy hRH' hE => ?_
  refine hK (a.put l[j].dst y) w' (fun n => if N j ≤ n ∧ n < N (j + 1) then ν' n else ν n) ?_
  generalize hν2 : (fun n => if N j ≤ n ∧ n < N (j + 1) then ν' n else ν n : Nm) = ν2
  have hin : ∀ n, N j ≤ n → n < N (j + 1) → ν2 n = ν' n := fun n h1 h2 => by rw [← hν2]; exact if_pos ⟨h1, h2⟩
  have hout : ∀ n, ¬ (N j ≤ n ∧ n < N (j + 1)) → ν2 n = ν n := fun n h1 => by rw [← hν2]; exact if_neg h1
  have hN0 : N 0 ≤ N j := ht.mono (Nat.zero_le _) hjle
  have hgrow : Grows ν ν2 := by
    intro n p hp
    by_cases h1 : N j ≤ n ∧ n < N (j + 1)
    · exfalso
      rcases hI.kn n p hp with h2 | ⟨i, h2, h3, h4, h5⟩
      · omega
      · rcases Nat.lt_trichotomy i j with h6 | h6 | h6
        · have := ht.mono (show i + 1 ≤ j by omega) hjle; omega
        · subst h6; exact hoff h3
        · have := ht.mono (show j + 1 ≤ i by omega) (by omega); omega
    · rw [hout n h1]; exact hp
  have hagr2 : Agr (N (j + 1)) ν' ν2 := by
    intro n hn
    by_cases h1 : N j ≤ n
    · exact hin n h1 hn
    · rw [hout n (by omega)]
      exact (hA n (by omega)).symm
  have hon : ∀ i, On (listed.setIfInBounds j true) i ↔ i = j ∨ On listed i := fun i => on_set hjl
  -- nothing behind j that clashes with it has run
  have hlate : ∀ i, j < i → i < l.length → (X i).clash (X j) = true → ¬ On listed i := fun i h1 h2 h3 h4 => hoff (hI.cl.cl i h4 j (ht.clash h1 h2 h3))
  have hMt : ∀ s k, (X j).wt ≠ some s → Mt l X (On (listed.setIfInBounds j true)) s k → Mt l X (On listed) s k := by
    intro s k h1 hm i hi hw
    rw [← hm i hi hw, hon]
    exact ⟨.inr, fun h => h.resolve_left fun e => by subst e; exact h1 hw⟩
  have hMn : ∀ n k, n ∉ (X j).wn → Mn l X (On (listed.setIfInBounds j true)) n k → Mn l X (On listed) n k := by
    intro n k h1 hm i hi hw
    rw [← hm i hi hw, hon]
    exact ⟨.inr, fun h => h.resolve_left fun e => by subst e; exact h1 hw⟩
  have hMtw : ∀ s k, k ≤ l.length → (X j).wt = some s → Mt l X (On (listed.setIfInBounds j true)) s k → j < k ∧ get (F k) s = get (F (j + 1)) s := by
    intro s k hk h1 hm
    have hjk : j < k := (hm j hj h1).1 ((hon j).2 (.inl rfl))
    refine ⟨hjk, ht.slot hjk hk fun i h2 h3 h4 => ?_⟩
    have h5 := (hm i (by omega) h4).2 h3
    rcases (hon i).1 h5 with h6 | h6
    · omega
    · exact hlate i (by omega) (by omega) (Foot.clash_slot (a := X i) (b := X j) h4 (.inr h1)).1 h6
  have hMnw : ∀ n k, k ≤ l.length → n ∈ (X j).wn → Mn l X (On (listed.setIfInBounds j true)) n k → j < k ∧ hget (H k) n = hget (H (j + 1)) n := by
    intro n k hk h1 hm
    have hjk : j < k := (hm j hj h1).1 ((hon j).2 (.inl rfl))
    refine ⟨hjk, ht.name hjk hk fun i h2 h3 h4 => ?_⟩
    have h5 := (hm i (by omega) h4).2 h3
    rcases (hon i).1 h5 with h6 | h6
    · omega
    · exact hlate i (by omega) (by omega) (Foot.clash_name (a := X i) (b := X j) h4 (.inr h1)).1 h6
  have hmk' : ∀ n cs, n ∈ (X j).wn → hget (H (j + 1)) n = some cs → hget (mask (H (j + 1)) ((X j).rn ++ (X j).wn)) n = some cs := by
    intro n cs h1 h2
    rw [hget_mask, if_pos (List.mem_append.2 (.inr h1))]; exact h2
  have hlive : ∀ m k cs b z, k ≤ l.length → Mn l X (On listed) m k → hget (H k) m = some cs → ν m = some (some (b, z)) → b < w.heap.size := by
    intro m k cs b z h1 h2 h3 h4
    obtain ⟨c, e, fr, h5, _⟩ := (hI.hb m k h1 h2 cs h3).1 b z h4
    exact (Array.getElem?_eq_some_iff.1 h5).1
  -- a name that was not written keeps its block
  have hkeep : ∀ n k cs b z, k ≤ l.length → n ∉ (X j).wn → Mn l X (On listed) n k → hget (H k) n = some cs → ν n = some (some (b, z)) → w'.heap[b]? = w.heap[b]? := by
    intro n k cs b z h1 h2 h3 h4 h5
    refine hE.old b (hlive n k cs b z h1 h3 h4 h5) fun m cs' z' h6 h7 h8 => ?_
    obtain ⟨_, h9⟩ := hmk m cs' h6
    have := hI.inj n m k j cs cs' b z z' h1 hjle h3 (hname m (.inr h7)) h4 h9 h5 h8
    exact h2 (this ▸ h7)
  have hsame : ∀ n, n ∉ (X j).wn → ν2 n = ν n := fun n h1 => hout n fun h2 => h1 (hst.new n h2.1 h2.2)
  have hwnν : ∀ n, n ∈ (X j).wn → ν2 n = ν' n := fun n h1 => hagr2 n (hst.wn n h1)
  refine ⟨⟨by simpa using hI.cl.size, fun k hk i hi => ?_⟩, fun i hi h => ?_, ?_, ?_, fun n hn => ?_, fun n p hp => ?_, fun s k hk hm => ?_, fun n k hk hm cs hcs => ?_, fun n m k k' cs cs' b z z' hk hk' hm hm' h1 h2 h3 h4 => ?_,
    hE.os.trans hI.os, hE.tape.trans hI.tape, hE.output.trans hI.output, Nat.le_trans hI.size hE.size, fun b hb hne => ?_, fun n k cs b z hk hm h1 h2 h3 => ?_⟩
  · rw [hon] at hk ⊢
    rcases hk with rfl | hk
    · exact .inr (hbef i hi)
    · exact .inr (hI.cl.cl k hk i hi)
  · rcases (hon i).1 h with h1 | h1
    · omega
    · exact hI.hi i hi h1
  · have := hI.asz
    cases hd : l[j].dst <;> simp [Act.put, this]
  · have := hI.adef
    cases hd : l[j].dst <;> simp [Act.put, this]
  · rw [hout n (by omega)]; exact hI.agr n hn
  · by_cases h1 : N j ≤ n ∧ n < N (j + 1)
    · exact .inr ⟨j, hj, (hon j).2 (.inl rfl), h1⟩
    · rw [hout n h1] at hp
      rcases hI.kn n p hp with h2 | ⟨i, h2, h3, h4⟩
      · exact .inl h2
      · exact .inr ⟨i, h2, (hon i).2 (.inr h3), h4⟩
  · by_cases h1 : (X j).wt = some s
    · obtain ⟨hjk, he⟩ := hMtw s k hk h1 hm
      rw [he]
      have hd : l[j].dst = some s := hst.wt ▸ h1
      have hlt : s < a.tmps.size := by
        have := hst.dst
        rw [hd] at this
        exact Nat.lt_of_lt_of_le (Nat.le_of_ble_eq_true this) hI.asz
      have hv : (a.put l[j].dst y).tmps.getD s undef = y := by
        rw [hd]; simp [Act.put, Array.getD_eq_getD_getElem?, hlt]
      rw [hv]
      exact (hy s h1).mono hagr2 (ht.mono hjk hk)
    · have hv : (a.put l[j].dst y).tmps.getD s undef = a.tmps.getD s undef := by
        cases hd : l[j].dst with
        | none => rfl
        | some d =>
          have hne : d ≠ s := fun e => h1 (by rw [hst.wt, hd, e])
          simp only [Act.put]
          rw [Array.getD_eq_getD_getElem?, Array.getElem?_setIfInBounds_ne hne, ← Array.getD_eq_getD_getElem?]
      rw [hv]
      exact (hI.sl s k hk (hMt s k h1 hm)).grow hgrow (Nat.le_refl _)
  · by_cases h1 : n ∈ (X j).wn
    · obtain ⟨hjk, he⟩ := hMnw n k hk h1 hm
      rw [he] at hcs
      have hcs' := hmk' n cs h1 hcs
      have hNk : N (j + 1) ≤ N k := ht.mono hjk hk
      rw [hwnν n h1]
      constructor
      · intro b z hν
        obtain ⟨c, e, fr, h2, h3, h4, ys, zs, h5, h6⟩ := hRH'.blk n cs b z hcs' hν
        exact ⟨c, e, fr, h2, h3, h4, ys, zs, h5, h6.mono hagr2 hNk⟩
      · intro hν
        exact (hRH'.nil n cs hcs' hν).mono hagr2 hNk
    · have hm' := hMn n k h1 hm
      rw [hsame n h1]
      constructor
      · intro b z hν
        obtain ⟨c, e, fr, h2, h3, h4, ys, zs, h5, h6⟩ := (hI.hb n k hk hm' cs hcs).1 b z hν
        exact ⟨c, e, fr, by rw [hkeep n k cs b z hk h1 hm' hcs hν]; exact h2, h3, h4, ys, zs, h5, h6.grow hgrow (Nat.le_refl _)⟩
      · intro hν
        exact ((hI.hb n k hk hm' cs hcs).2 hν).grow hgrow (Nat.le_refl _)
  · -- two names, one block
    have one : ∀ n m k k' cs cs' b z z', k ≤ l.length → k' ≤ l.length → n ∈ (X j).wn → m ∉ (X j).wn → Mn l X (On (listed.setIfInBounds j true)) n k → Mn l X (On (listed.setIfInBounds j true)) m k' →
        hget (H k) n = some cs → hget (H k') m = some cs' → ν2 n = some (some (b, z)) → ν2 m = some (some (b, z')) → False := by
      intro n m k k' cs cs' b z z' hk hk' hn hm0 hm hm' h1 h2 h3 h4
      obtain ⟨hjk, he⟩ := hMnw n k hk hn hm
      rw [he] at h1
      rw [hwnν n hn] at h3
      rw [hsame m hm0] at h4
      have hm2 := hMn m k' hm0 hm'
      rcases hE.new n cs b z (hmk' n cs hn h1) hn h3 with h5 | ⟨m', cs2, z2, h5, h6, h7⟩
      · have := hlive m k' cs' b z' hk' hm2 h2 h4; omega
      · obtain ⟨_, h8⟩ := hmk m' cs2 h5
        have := hI.inj m m' k' j cs' cs2 b z' z2 hk' hjle hm2 (hname m' (.inr h6)) h2 h8 h4 h7
        exact hm0 (this ▸ h6)
    by_cases hn : n ∈ (X j).wn <;> by_cases hm0 : m ∈ (X j).wn
    · obtain ⟨hjk, he⟩ := hMnw n k hk hn hm
      obtain ⟨hjk', he'⟩ := hMnw m k' hk' hm0 hm'
      rw [he] at h1
      rw [he'] at h2
      rw [hwnν n hn] at h3
      rw [hwnν m hm0] at h4
      exact hRH'.inj n m cs cs' b z z' (hmk' n cs hn h1) (hmk' m cs' hm0 h2) h3 h4
    · exact (one n m k k' cs cs' b z z' hk hk' hn hm0 hm hm' h1 h2 h3 h4).elim
    · exact (one m n k' k cs' cs b z' z hk' hk hm0 hn hm' hm h2 h1 h4 h3).elim
    · rw [hsame n hn] at h3
      rw [hsame m hm0] at h4
      exact hI.inj n m k k' cs cs' b z z' hk hk' (hMn n k hn hm) (hMn m k' hm0 hm') h1 h2 h3 h4
  · rw [← hI.old b hb hne]
    refine hE.old b (Nat.lt_of_lt_of_le hb hI.size) fun m cs z h1 h2 h3 => ?_
    obtain ⟨_, h4⟩ := hmk m cs h1
    have hq := hst.old m h2 (ht.lt hl0 hjle m cs h4)
    rcases hI.new m j cs b z hjle (hname m (.inr h2)) h4 hq h3 with h5 | ⟨m', cs', z', h5, h6, h7⟩
    · omega
    · exact hne m' cs' z' h5 h6 h7
  · by_cases hn : n ∈ (X j).wn
    · obtain ⟨hjk, he⟩ := hMnw n k hk hn hm
      rw [he] at h1
      rw [hwnν n hn] at h3
      rcases hE.new n cs b z (hmk' n cs hn h1) hn h3 with h5 | ⟨m', cs2, z2, h5, h6, h7⟩
      · exact .inl (Nat.le_trans hI.size h5)
      · obtain ⟨_, h8⟩ := hmk m' cs2 h5
        have hq := hst.old m' h6 (ht.lt hl0 hjle m' cs2 h8)
        exact hI.new m' j cs2 b z2 hjle (hname m' (.inr h6)) h8 hq h7
    · rw [hsame n hn] at h3
      exact hI.new n k cs b z hk (hMn n k hn hm) h1 h2 h3

end
end Go.Am
