/-
  A part of an abstract machine that runs a function's text over symbolic values, and of the proof that the machine is sound over the model. No condition.
-/
import Derived.Test.YtpojjdohonmnaaaRRRAmRel
namespace Go.Am
open Go Go.RowKit

def Agr (nx : Nat) (ν ν' : Nm) : Prop := ∀ n, n < nx → ν' n = ν n

theorem Agr.refl (nx : Nat) (ν : Nm) : Agr nx ν ν := fun _ _ => rfl
theorem Agr.trans {nx : Nat} {ν ν' ν'' : Nm} (h : Agr nx ν ν') (h' : Agr nx ν' ν'') : Agr nx ν ν'' := fun n hn => (h' n hn).trans (h n hn)
theorem Agr.mono {nx nx' : Nat} {ν ν' : Nm} (h : Agr nx ν ν') (hl : nx' ≤ nx) : Agr nx' ν ν' := fun n hn => h n (Nat.lt_of_lt_of_le hn hl)

/-- related, whatever the names from nx on -/
def RVn (nx : Nat) (ν : Nm) (v : V) (y : Value) : Prop := ∀ ν', Agr nx ν ν' → RV ν' v y
def RCn (nx : Nat) (ν : Nm) (cs : List Seg) (ys : List Value) : Prop := ∀ ν', Agr nx ν ν' → RC ν' cs ys
def RLn (nx : Nat) (ν : Nm) (l : List V) (ys : List Value) : Prop := ∀ ν', Agr nx ν ν' → RL ν' l ys

theorem RVn.here {nx : Nat} {ν : Nm} {v : V} {y : Value} (h : RVn nx ν v y) : RV ν v y := h ν (Agr.refl _ _)
theorem RCn.here {nx : Nat} {ν : Nm} {v : List Seg} {y : List Value} (h : RCn nx ν v y) : RC ν v y := h ν (Agr.refl _ _)
theorem RVn.mono {nx nx' : Nat} {ν ν' : Nm} {v : V} {y : Value} (h : RVn nx ν v y) (ha : Agr nx ν ν') (hl : nx ≤ nx') : RVn nx' ν' v y :=
  fun ν'' h'' => h ν'' (ha.trans (h''.mono hl))
theorem RCn.mono {nx nx' : Nat} {ν ν' : Nm} {v : List Seg} {y : List Value} (h : RCn nx ν v y) (ha : Agr nx ν ν') (hl : nx ≤ nx') : RCn nx' ν' v y :=
  fun ν'' h'' => h ν'' (ha.trans (h''.mono hl))
theorem RLn.mono {nx nx' : Nat} {ν ν' : Nm} {v : List V} {y : List Value} (h : RLn nx ν v y) (ha : Agr nx ν ν') (hl : nx ≤ nx') : RLn nx' ν' v y :=
  fun ν'' h'' => h ν'' (ha.trans (h''.mono hl))

/-- no cell of so many is frozen -/
def Free (fr : Nat × Nat) (sz : Nat) : Prop := ∀ i, i < sz → ¬ (fr.1 ≤ i ∧ i < fr.2)

structure RH (nx : Nat) (ν : Nm) (h : Hp) (w : World) : Prop where
  lt : ∀ n cs, hget h n = some cs → n < nx
  blk : ∀ n cs b sz, hget h n = some cs → ν n = some (some (b, sz)) →
    ∃ c e fr, w.heap[b]? = some (.cells c e fr) ∧ c.size = sz ∧ Free fr sz ∧ ∃ ys zs, c.toList = ys ++ zs ∧ RCn nx ν cs ys
  nil : ∀ n cs, hget h n = some cs → ν n = some none → RCn nx ν cs []
  inj : ∀ n m cs cs' b sz sz', hget h n = some cs → hget h m = some cs' → ν n = some (some (b, sz)) → ν m = some (some (b, sz')) → n = m

structure Ext (r : Nat → Prop) (ν : Nm) (h : Hp) (w : World) (ν' : Nm) (h' : Hp) (w' : World) : Prop where
  os : w'.os = w.os
  tape : w'.tape = w.tape
  output : w'.output = w.output
  size : w.heap.size ≤ w'.heap.size
  old : ∀ b, b < w.heap.size → (∀ n cs sz, hget h n = some cs → r n → ν n ≠ some (some (b, sz))) → w'.heap[b]? = w.heap[b]?
  new : ∀ n cs b sz, hget h' n = some cs → r n → ν' n = some (some (b, sz)) → w.heap.size ≤ b ∨ ∃ m cs' sz', hget h m = some cs' ∧ r m ∧ ν m = some (some (b, sz'))

theorem Ext.refl (r : Nat → Prop) (ν : Nm) (h : Hp) (w : World) : Ext r ν h w ν h w :=
  ⟨rfl, rfl, rfl, Nat.le_refl _, fun _ _ _ => rfl, fun n cs b sz hn hr hν => .inr ⟨n, cs, sz, hn, hr, hν⟩⟩

theorem Ext.trans {r : Nat → Prop} {ν ν' ν'' : Nm} {h h' h'' : Hp} {w w' w'' : World} (a : Ext r ν h w ν' h' w') (b : Ext r ν' h' w' ν'' h'' w'') : Ext r ν h w ν'' h'' w'' := by
  refine ⟨b.os.trans a.os, b.tape.trans a.tape, b.output.trans a.output, Nat.le_trans a.size b.size, fun q hq hn => ?_, fun n cs q sz hn hr hν => ?_⟩
  · rw [b.old q (Nat.lt_of_lt_of_le hq a.size) (fun n cs sz hn' hr hν => ?_)]
    · exact a.old q hq hn
    · rcases a.new n cs q sz hn' hr hν with h1 | ⟨m, cs', sz', h1, h2, h3⟩
      · omega
      · exact hn m cs' sz' h1 h2 h3
  · rcases b.new n cs q sz hn hr hν with h1 | ⟨m, cs', sz', h1, h2, h3⟩
    · exact .inl (Nat.le_trans a.size h1)
    · exact a.new m cs' q sz' h1 h2 h3

/-- a world with more drawn -/
theorem Ext.of_heap {r : Nat → Prop} {ν : Nm} {h : Hp} {w w' : World} (ho : w'.os = w.os) (ht : w'.tape = w.tape) (hu : w'.output = w.output) (hh : w'.heap = w.heap) : Ext r ν h w ν h w' :=
  ⟨ho, ht, hu, by rw [hh]; exact Nat.le_refl _, fun _ _ _ => by rw [hh], fun n cs b sz hn hr hν => .inr ⟨n, cs, sz, hn, hr, hν⟩⟩

theorem RH.of_heap {nx : Nat} {ν : Nm} {h : Hp} {w w' : World} (hr : RH nx ν h w) (hh : w'.heap = w.heap) : RH nx ν h w' :=
  ⟨hr.lt, fun n cs b sz hn hν => by rw [hh]; exact hr.blk n cs b sz hn hν, hr.nil, hr.inj⟩

theorem RH.block_lt {nx : Nat} {ν : Nm} {h : Hp} {w : World} (hr : RH nx ν h w) {n : Nat} {cs : List Seg} {b sz : Nat} (hn : hget h n = some cs) (hν : ν n = some (some (b, sz))) : b < w.heap.size := by
  obtain ⟨c, e, fr, hb, _⟩ := hr.blk n cs b sz hn hν
  exact (Array.getElem?_eq_some_iff.1 hb).1

/-- names may be told by others that agree -/
theorem RH.mono {nx nx' : Nat} {ν ν' : Nm} {h : Hp} {w : World} (hr : RH nx ν h w) (ha : Agr nx ν ν') (hl : nx ≤ nx') : RH nx' ν' h w := by
  refine ⟨fun n cs hn => Nat.lt_of_lt_of_le (hr.lt n cs hn) hl, fun n cs b sz hn hν => ?_, fun n cs hn hν => ?_, fun n m cs cs' b sz sz' hn hm h1 h2 => ?_⟩
  · rw [ha n (hr.lt n cs hn)] at hν
    obtain ⟨c, e, fr, hb, hs, hf, ys, zs, he, hc⟩ := hr.blk n cs b sz hn hν
    exact ⟨c, e, fr, hb, hs, hf, ys, zs, he, hc.mono ha hl⟩
  · rw [ha n (hr.lt n cs hn)] at hν
    exact (hr.nil n cs hn hν).mono ha hl
  · rw [ha n (hr.lt n cs hn)] at h1
    rw [ha m (hr.lt m cs' hm)] at h2
    exact hr.inj n m cs cs' b sz sz' hn hm h1 h2

def setNm (ν : Nm) (n : Nat) (q : Option (Option (Nat × Nat))) : Nm := fun m => if m = n then q else ν m
theorem setNm_agr (ν : Nm) (nx : Nat) (q : Option (Option (Nat × Nat))) : Agr nx ν (setNm ν nx q) := fun n hn => by unfold setNm; rw [if_neg (by omega)]
theorem setNm_same (ν : Nm) (n : Nat) (q : Option (Option (Nat × Nat))) : setNm ν n q n = q := by simp [setNm]

theorem hget_cons (h : Hp) (n m : Nat) (q : Option (List Seg)) : hget ((n, q) :: h) m = if n = m then q else hget h m := by
  simp only [hget]
  cases hb : Nat.beq n m with
  | true => have := Nat.eq_of_beq_eq_true hb; subst this; simp
  | false => have : ¬ n = m := by intro e; subst e; simp at hb
             simp [this]

/-- a new block -/
theorem alloc_new {nx : Nat} {r : Nat → Prop} {ν : Nm} {h : Hp} {w : World} (hh : RH nx ν h w) {cs : List Seg} {c : Array Value} (e : TypeId) (fr : Nat × Nat)
    (hfr : Free fr c.size) {ys zs : List Value} (hc : c.toList = ys ++ zs) (hcs : RCn nx ν cs ys) {w' : World}
    (hw : w'.heap = w.heap.push (.cells c e fr)) (ho : w'.os = w.os) (ht : w'.tape = w.tape) (hu : w'.output = w.output) :
    let ν' := setNm ν nx (some (some (w.heap.size, c.size)))
    RH (nx + 1) ν' ((nx, some cs) :: h) w' ∧ Ext r ν h w ν' ((nx, some cs) :: h) w' ∧ Agr nx ν ν' := by
  intro ν'
  have ha : Agr nx ν ν' := setNm_agr _ _ _
  have hsame : ν' nx = some (some (w.heap.size, c.size)) := setNm_same _ _ _
  have hnx : hget h nx = none := by
    cases hg : hget h nx with
    | none => rfl
    | some q => exact absurd (hh.lt _ _ hg) (by omega)
  have hold : ∀ (b : Nat), b < w.heap.size → w'.heap[b]? = w.heap[b]? := fun b hb => by rw [hw, Array.getElem?_push, if_neg (by omega)]
  refine ⟨⟨fun n q hn => ?_, fun n q b sz hn hν => ?_, fun n q hn hν => ?_, fun n m q q' b sz sz' hn hm h1 h2 => ?_⟩, ⟨ho, ht, hu, by rw [hw]; simp, fun b hb _ => hold b hb, fun n q b sz hn hr hν => ?_⟩, ha⟩
  · rw [hget_cons] at hn
    split at hn
    · omega
    · have := hh.lt n q hn; omega
  · rw [hget_cons] at hn
    split at hn
    · rename_i hnn; subst hnn
      simp at hn; subst hn
      rw [hsame] at hν; simp at hν
      obtain ⟨rfl, rfl⟩ := hν
      exact ⟨c, e, fr, by rw [hw]; simp, rfl, hfr, ys, zs, hc, hcs.mono ha (by omega)⟩
    · have hlt := hh.lt n q hn
      rw [ha n hlt] at hν
      obtain ⟨c', e', fr', hb, hs, hf, ys', zs', he, hc'⟩ := hh.blk n q b sz hn hν
      exact ⟨c', e', fr', by rw [hold b (hh.block_lt hn hν)]; exact hb, hs, hf, ys', zs', he, hc'.mono ha (by omega)⟩
  · rw [hget_cons] at hn
    split at hn
    · rename_i hnn; subst hnn; rw [hsame] at hν; simp at hν
    · have hlt := hh.lt n q hn
      rw [ha n hlt] at hν
      exact (hh.nil n q hn hν).mono ha (by omega)
  · rw [hget_cons] at hn hm
    split at hn <;> split at hm
    · omega
    · rename_i e1 e2; subst e1
      have hlt := hh.lt m q' hm
      rw [hsame] at h1; simp at h1
      rw [ha m hlt] at h2
      have := hh.block_lt hm h2; omega
    · rename_i e1 e2; subst e2
      have hlt := hh.lt n q hn
      rw [hsame] at h2; simp at h2
      rw [ha n hlt] at h1
      have := hh.block_lt hn h1; omega
    · rw [ha n (hh.lt n q hn)] at h1
      rw [ha m (hh.lt m q' hm)] at h2
      exact hh.inj n m q q' b sz sz' hn hm h1 h2
  · rw [hget_cons] at hn
    split at hn
    · rename_i hnn; subst hnn
      rw [hsame] at hν; simp at hν; exact .inl (by omega)
    · rw [ha n (hh.lt n q hn)] at hν
      exact .inr ⟨n, q, sz, hn, hr, hν⟩

/-- a block is written -/
theorem write_blk {nx : Nat} {r : Nat → Prop} {ν : Nm} {h : Hp} {w : World} (hh : RH nx ν h w) {n b sz : Nat} {cs0 cs : List Seg} (hn0 : hget h n = some cs0) (hr : r n) (hν0 : ν n = some (some (b, sz)))
    {c : Array Value} (e : TypeId) (fr : Nat × Nat) (hfr : Free fr sz) (hsz : c.size = sz) {ys zs : List Value} (hc : c.toList = ys ++ zs) (hcs : RCn nx ν cs ys) {w' : World}
    (hb : w'.heap[b]? = some (.cells c e fr)) (hold : ∀ k, k ≠ b → w'.heap[k]? = w.heap[k]?) (hs : w'.heap.size = w.heap.size)
    (ho : w'.os = w.os) (ht : w'.tape = w.tape) (hu : w'.output = w.output) :
    RH nx ν ((n, some cs) :: h) w' ∧ Ext r ν h w ν ((n, some cs) :: h) w' := by
  refine ⟨⟨fun m q hm => ?_, fun m q b' sz' hm hν => ?_, fun m q hm hν => ?_, fun m m' q q' b' sz1 sz2 hm hm' h1 h2 => ?_⟩, ⟨ho, ht, hu, by omega, fun b' hb' hne => ?_, fun m q b' sz' hm hr' hν => ?_⟩⟩
  · rw [hget_cons] at hm
    split at hm
    · rename_i e1; subst e1; exact hh.lt _ _ hn0
    · exact hh.lt m q hm
  · rw [hget_cons] at hm
    split at hm
    · rename_i e1; subst e1
      simp at hm; subst hm
      rw [hν0] at hν; simp at hν
      obtain ⟨rfl, rfl⟩ := hν
      exact ⟨c, e, fr, hb, hsz, hfr, ys, zs, hc, hcs⟩
    · rename_i e1
      obtain ⟨c', e', fr', hb', hrest⟩ := hh.blk m q b' sz' hm hν
      refine ⟨c', e', fr', ?_, hrest⟩
      rw [hold b' (fun e2 => e1 ?_)]
      · exact hb'
      · subst e2; exact hh.inj n m cs0 q b' sz sz' hn0 hm hν0 hν
  · rw [hget_cons] at hm
    split at hm
    · rename_i e1; subst e1; rw [hν0] at hν; simp at hν
    · exact hh.nil m q hm hν
  · have key : ∀ {m q}, hget ((n, some cs) :: h) m = some q → ∃ q', hget h m = some q' := by
      intro m q hm
      rw [hget_cons] at hm
      split at hm
      · rename_i e1; subst e1; exact ⟨_, hn0⟩
      · exact ⟨_, hm⟩
    obtain ⟨_, hm⟩ := key hm
    obtain ⟨_, hm'⟩ := key hm'
    exact hh.inj m m' _ _ b' sz1 sz2 hm hm' h1 h2
  · exact hold b' (fun e2 => by subst e2; exact hne n cs0 sz hn0 hr hν0)
  · rw [hget_cons] at hm
    split at hm
    · rename_i e1; subst e1; exact .inr ⟨n, cs0, sz', hn0, hr', hν⟩
    · exact .inr ⟨m, q, sz', hm, hr', hν⟩

/-- fewer names -/
theorem RH.drop {nx : Nat} {ν : Nm} {h h' : Hp} {w : World} (hh : RH nx ν h w) (hs : ∀ n cs, hget h' n = some cs → hget h n = some cs) : RH nx ν h' w :=
  ⟨fun n cs hn => hh.lt n cs (hs n cs hn), fun n cs b sz hn => hh.blk n cs b sz (hs n cs hn), fun n cs hn => hh.nil n cs (hs n cs hn),
   fun n m cs cs' b sz sz' hn hm => hh.inj n m cs cs' b sz sz' (hs n cs hn) (hs m cs' hm)⟩

theorem Ext.drop {r : Nat → Prop} {ν : Nm} {h h' : Hp} {w : World} (hs : ∀ n cs, hget h' n = some cs → hget h n = some cs) : Ext r ν h w ν h' w :=
  ⟨rfl, rfl, rfl, Nat.le_refl _, fun _ _ _ => rfl, fun n cs b sz hn hr hν => .inr ⟨n, cs, sz, hs n cs hn, hr, hν⟩⟩

end Go.Am
