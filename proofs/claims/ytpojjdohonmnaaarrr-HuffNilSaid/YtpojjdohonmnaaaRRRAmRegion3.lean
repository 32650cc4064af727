/-
  A part of an abstract machine that runs a function's text over symbolic values, and of the proof that the machine is sound over the model. No condition.
-/
import Derived.Test.YtpojjdohonmnaaaRRRAmRegion2
namespace Go.Am
open Go Go.RowKit

section
variable {q : Nat} {P : Program} {ops : Array Oper} {sz : Nat} {l : List Oper} {X : Nat → Foot} {F : Nat → Fr} {H : Nat → Hp} {N : Nat → Nat}

theorem wpAny_head (ht : Tr P q ops sz l X F H N) (hl0 : ∀ n cs, hget (H 0) n = some cs → n < N 0) (hb : backOk ops.toList 0 = true) (hl : l.length ≤ ops.size)
    (hte : ∀ j, l.length ≤ j → j < ops.size → (befores ops.toList []).getD j 0 = 2 ^ j - 1) {ν0 : Nm} {w0 : World} {Q : Exit → Act → World → Prop}
    (hfin : ∀ listed a w ν, Inv q ops sz l X F H N ν0 w0 listed a w ν → (∀ i, i < l.length → On listed i) → wpOps P ops Q (List.range' l.length (ops.size - l.length)) a w) :
    ∀ (fuel : Nat) (listed : Array Bool) (a : Act) (w : World) (ν : Nm), offs listed ≤ fuel → Inv q ops sz l X F H N ν0 w0 listed a w ν → wpAny P .any ops Q fuel listed a w := by
  intro fuel
  induction fuel with
  | zero =>
    intro listed a w ν hf hI
    have hall := offs_zero (Nat.le_zero.1 hf)
    rw [hI.cl.size] at hall
    exact wpAny_tail hb hte 0 listed l.length a w hf hI.cl (Nat.le_refl _) (fun i hi _ => hall i (by omega)) (fun i hi => hI.hi i hi)
      (hfin listed a w ν hI fun i hi => hall i (by omega))
  | succ fuel ih =>
    intro listed a w ν hf hI
    by_cases hall : ∀ i, i < l.length → On listed i
    · exact wpAny_tail hb hte (fuel + 1) listed l.length a w hf hI.cl (Nat.le_refl _) (fun i hi _ => hall i hi) (fun i hi => hI.hi i hi) (hfin listed a w ν hI hall)
    · obtain ⟨j, hj, hjn, hjl⟩ := least_off l.length hall
      have hr := ready_some hI.cl.size hb (by omega) hjn hjl
      refine ⟨fun e => (by rw [e] at hr; cases hr), fun i hi => ?_⟩
      obtain ⟨h1, h2, h3⟩ := ready_closed hI.cl hi
      have hil : i < l.length := by
        rcases Nat.lt_or_ge i l.length with h4 | h4
        · exact h4
        · refine absurd (fun k hk => h3 k ?_) hall
          rw [hte i h4 h1, Nat.testBit_two_pow_sub_one]
          exact decide_eq_true (by omega)
      refine hI.next ht hl0 hil hi fun a' w' ν' hI' => ih _ a' w' ν' ?_ hI'
      have := offs_set (by rw [hI.cl.size]; exact h1) h2
      omega

theorem Inv.done (ht : Tr P q ops sz l X F H N) (hl0 : ∀ n cs, hget (H 0) n = some cs → n < N 0) {ν0 : Nm} {w0 : World} {listed : Array Bool} {a : Act} {w : World} {ν : Nm}
    (hI : Inv q ops sz l X F H N ν0 w0 listed a w ν) (hall : ∀ i, i < l.length → On listed i) :
    After q (N 0) ν0 (H 0) w0 (N l.length) ν (H l.length) w ∧ RA (N l.length) ν sz (F l.length) a ∧ RH (N l.length) ν (H l.length) w := by
  have hm : ∀ s, Mt l X (On listed) s l.length := fun s i hi _ => ⟨fun _ => hi, fun _ => hall i hi⟩
  have hn : ∀ n, Mn l X (On listed) n l.length := fun s i hi _ => ⟨fun _ => hi, fun _ => hall i hi⟩
  have hle := Nat.le_refl l.length
  refine ⟨⟨ht.mono (Nat.zero_le _) hle, hI.agr, hI.os, hI.tape, hI.output, hI.size, hI.old, fun n cs b z h1 h2 h3 => hI.new n _ cs b z hle (hn n) h1 h2 h3⟩, ⟨fun s => hI.sl s _ hle (hm s), hI.asz, hI.adef⟩,
    ht.lt hl0 hle, fun n cs b z h1 h2 => (hI.hb n _ hle (hn n) cs h1).1 b z h2, fun n cs h1 h2 => (hI.hb n _ hle (hn n) cs h1).2 h2, fun n m cs cs' b z z' h1 h2 h3 h4 => hI.inj n m _ _ cs cs' b z z' hle hle (hn n) (hn m) h1 h2 h3 h4⟩

end

theorem regionOk {P : Program} (hP : ProgOk P) : RegionOk P := by
  intro q E inl sz ops dr id f h nx K ν a w L Q hE hI hR hh hs hK
  unfold regionT at hs
  cases dr with
  | false =>
    simp only [cond_false] at hs
    refine wp_region ?_
    rw [List.range_eq_range']
    have := evOps_sound hE hI (ops := ops) ops.toList 0 (fun k o ho => by rw [Nat.zero_add]; simpa using ho) f h nx ν a w hR hh hs hK
    simpa using this
  | true =>
    simp only [cond_true] at hs
    cases hb : backOk ops.toList 0 with
    | false => simp only [hb, Bool.not_false, cond_true] at hs; exact hs.elim
    | true =>
      simp only [hb, Bool.not_true, cond_false] at hs
      obtain ⟨ht1, ht2⟩ := headLen_spec (befores ops.toList [])
      rw [befores_length] at ht1 ht2
      simp only [List.length_nil, Nat.zero_add, Array.length_toList] at ht1 ht2
      generalize hte : headLen (befores ops.toList []) = t at hs ht1 ht2
      have hlen : (ops.toList.take t).length = t := by simp; omega
      obtain ⟨X, F, H, N, h1, h2, h3, ht, hs'⟩ := evDraw_trace hE (ops := ops) (ops.toList.take t) 0 [] f h nx (fun k o ho => by
        rw [Nat.zero_add]
        rw [List.getElem?_take] at ho
        split at ho
        · simpa using ho
        · cases ho) hh.lt hs
      rw [Nat.zero_add, hlen] at hs'
      subst h1 h2 h3
      refine wp_region_any hP.mixed ?_
      have hoffs : offs (Array.replicate ops.size false) ≤ ops.size := by
        unfold offs
        have := List.count_le_length (a := false) (l := (Array.replicate ops.size false).toList)
        exact Nat.le_trans this (by simp)
      refine wpAny_head ht hh.lt hb (by rw [hlen]; exact ht1) (by rw [hlen]; exact ht2) (ν0 := ν) (w0 := w) ?_ ops.size _ a _ _ hoffs (Inv.start ht hR (hh.of_heap rfl) (by rw [hlen]; exact ht1) rfl rfl rfl rfl)
      intro listed a' w' ν' hInv hall
      obtain ⟨k1, k2, k3⟩ := hInv.done ht hh.lt hall
      rw [hlen] at k1 k2 k3 ⊢
      have := evOps_sound hE hI (ops := ops) (Q := Q) (ops.toList.drop t) t (fun k o ho => by
        rw [List.getElem?_drop] at ho; simpa using ho) (F t) (H t) (N t) ν' a' w' k2 k3 hs' (fun f' h' nx' ν'' a'' w'' m1 m2 m3 m4 => hK f' h' nx' ν'' a'' w'' (k1.trans m1) m2 m3 m4)
      simpa using this

end Go.Am
