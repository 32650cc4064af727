/-
  A part of an abstract machine that runs a function's text over symbolic values, and of the proof that the machine is sound over the model. No condition.
-/
import Derived.Test.YtpojjdohonmnaaaRRRAmDraw
namespace Go.Am
open Go Go.RowKit

variable {q : Nat} {P : Program} {nx nx' : Nat} {ν ν' : Nm} {h h' : Hp} {w w' : World} {ρ : Operand → V}

/-- one operation of a region whose order is open: what it needs, what it does -/
structure StepOk (P : Program) (q : Nat) (ops : Array Oper) (sz j : Nat) (o : Oper) (x : Foot) (f : Fr) (h : Hp) (nx : Nat) (f' : Fr) (h' : Hp) (nx' : Nat) : Prop where
  wt : x.wt = o.dst
  dst : dstOk sz o.dst = true
  frame : ∀ s, x.wt ≠ some s → get f' s = get f s
  heap : ∀ n, n ∉ x.wn → hget h' n = hget h n
  le : nx ≤ nx'
  rn : ∀ n ∈ x.rn, n < nx
  wn : ∀ n ∈ x.wn, n < nx'
  new : ∀ n, nx ≤ n → n < nx' → n ∈ x.wn
  old : ∀ n ∈ x.wn, n < nx → q ≤ n
  exec : ∀ (a : Act) (w : World) (ν : Nm), (∀ s ∈ x.rt, RVn nx ν (get f s) (a.tmps.getD s undef)) → sz ≤ a.tmps.size → a.defers = [] → RH nx ν (mask h (x.rn ++ x.wn)) w →
    ∀ (next : Act → World → Prop) (Q : Exit → Act → World → Prop), (∀ y ν' w', Agr nx ν ν' → (∀ s, x.wt = some s → RVn nx' ν' (get f' s) y) → RH nx' ν' (mask h' (x.rn ++ x.wn)) w' →
      Ext (fun n => n ∈ x.wn) ν (mask h (x.rn ++ x.wn)) w ν' (mask h' (x.rn ++ x.wn)) w' → next (a.put o.dst y) w') → wpOp P ops Q j next a w

theorem foot_snd (ρ : Operand → V) (h h' : Hp) (op : Op) : (foot ρ h op).2 = (foot ρ h' op).2 := by
  cases op
  case call c =>
    cases hc : c.callee with
    | value x => simp [foot, hc]
    | invoke x n => simp [foot, hc]
    | builtin b =>
      cases b <;> simp only [foot, hc] <;> split <;> rfl
  all_goals rfl

def Rises (nx : Nat) (r : Res) : Prop := r.ok = true → nx ≤ r.nx
theorem Rises.bad : Rises nx bad := fun h => by simp [Am.bad] at h
theorem Rises.same {b : Bool} {v : V} : Rises nx ⟨b, v, h, nx⟩ := fun _ => Nat.le_refl _
theorem Rises.succ {b : Bool} {v : V} : Rises nx ⟨b, v, h, nx + 1⟩ := fun _ => Nat.le_succ _
theorem Rises.cond {b : Bool} {x y : Res} (hx : Rises nx x) (hy : Rises nx y) : Rises nx (bif b then x else y) := by cases b <;> assumption
theorem ev1_rises (op : Op) : Rises nx (ev1 P ρ h nx op) := by
  cases op <;> simp only [ev1] <;> (repeat' first
    | exact Rises.bad
    | exact Rises.same
    | exact Rises.succ
    | apply Rises.cond
    | split)

theorem get_map (f : Fr) (ts : List Nat) (t : Nat) : get (ts.map fun t => (t, get f t)) t = if t ∈ ts then get f t else .dk := by
  induction ts with
  | nil => simp [get]
  | cons s ts ih =>
    simp only [List.map_cons, get_cons, ih, List.mem_cons]
    by_cases e : s = t
    · subst e; simp
    · rw [if_neg e]
      by_cases e2 : t ∈ ts
      · rw [if_pos e2, if_pos (.inr e2)]
      · rw [if_neg e2, if_neg (fun e3 => e3.elim (fun e4 => e e4.symm) e2)]

theorem RA.part {sz : Nat} {f : Fr} {a : Act} {ts : List Nat} (hs : ∀ s ∈ ts, RVn nx ν (get f s) (a.tmps.getD s undef)) (hz : sz ≤ a.tmps.size) (hd : a.defers = []) :
    RA nx ν sz (ts.map fun t => (t, get f t)) a := by
  refine ⟨fun t => ?_, hz, hd⟩
  rw [get_map]
  split
  · rename_i ht; exact hs t ht
  · exact rvn_x _

theorem ltAll_of {nx : Nat} {ns : List Nat} (h : ltAll nx ns = true) {n : Nat} (hn : n ∈ ns) : n < nx := Nat.le_of_ble_eq_true (List.all_eq_true.1 h n hn)
theorem wrOk_of {ns : List Nat} (h : wrOk q ns = true) {n : Nat} (hn : n ∈ ns) : q ≤ n := Nat.le_of_ble_eq_true (List.all_eq_true.1 h n hn)

theorem guard_mem {o : Oper} {ops : Array Oper} {j d : Nat} {want : Bool} (hg : o.guard = some (j, want)) (hd : (ops[j]?).bind (·.dst) = some d) : d ∈ tmpsOf o ops := by
  unfold tmpsOf
  rw [hg]
  simp only [List.mem_append]
  right
  rw [hd]; simp

/-- an operation of the text by itself -/
theorem step_run {ops : Array Oper} {sz j : Nat} {o : Oper} (ho : ops[j]? = some o) {f fm : Fr} {hm : Hp} {ft : List Nat × List Nat} {wn : List Nat} {r : Res} {af : Nat} (hd : dstOk sz o.dst = true)
    (hfm : fm = (tmpsOf o ops).map fun t => (t, get f t)) (hft : ft = foot (ev fm) h o.op) (hhm : hm = mask h (ft.1 ++ ft.2)) (hr : r = ev1 P (ev fm) hm nx o.op) (hwn : wn = ft.2 ++ List.range' nx (r.nx - nx))
    (hlt : ltAll nx (ft.1 ++ ft.2) = true) (hwr : wrOk q ft.2 = true) (hok : r.ok = true)
    (hw : ∀ (a : Act) (ν : Nm), (∀ s ∈ tmpsOf o ops, RVn nx ν (get f s) (a.tmps.getD s undef)) → sz ≤ a.tmps.size → a.defers = [] → Region.wanted o (yielded ops a.tmps) = true)
    (hhl : ∀ n cs, hget h n = some cs → n < nx) :
    StepOk P q ops sz j o ⟨tmpsOf o ops, o.dst, ft.1, wn, af⟩ f h nx (put f o.dst r.v) (upd h r.h wn) r.nx := by
  have hle : nx ≤ r.nx := by rw [hr] at hok ⊢; exact ev1_rises _ hok
  have hmem : ∀ n, n ∈ wn ↔ n ∈ ft.2 ∨ (nx ≤ n ∧ n < r.nx) := by
    intro n
    rw [hwn, List.mem_append, List.mem_range'_1]
    constructor
    · rintro (h1 | h1)
      · exact .inl h1
      · exact .inr (by omega)
    · rintro (h1 | h1)
      · exact .inl h1
      · exact .inr (by omega)
  have hlt' : ∀ n, n ∈ ft.1 ∨ n ∈ ft.2 → n < nx := fun n hn => ltAll_of hlt (List.mem_append.2 hn)
  have hmask : ∀ n, hget (mask h (ft.1 ++ wn)) n = hget hm n := by
    intro n
    rw [hhm, hget_mask, hget_mask]
    simp only [List.mem_append, hmem]
    by_cases h1 : n ∈ ft.1 ∨ n ∈ ft.2
    · rw [if_pos h1, if_pos (h1.elim .inl (fun h2 => .inr (.inl h2)))]
    · rw [if_neg h1]
      split
      · rename_i h2
        cases hg : hget h n with
        | none => rfl
        | some cs =>
          have := hhl n cs hg
          rcases h2 with h2 | h2 | h2
          · exact absurd (.inl h2) h1
          · exact absurd (.inr h2) h1
          · omega
      · rfl
  have hkeep : ∀ n, n ∈ ft.1 → n ∉ wn → hget r.h n = hget h n := by
    intro n h1 h2
    have hn := hlt' n (.inl h1)
    have h3 : n ∉ (foot (ev fm) h o.op).2 := by rw [← hft]; exact fun e => h2 ((hmem n).2 (.inl e))
    have := ev1_keeps (P := P) (ρ := ev fm) (h := hm) (nx := nx) hn h3
    rw [← hr] at this
    rw [this hok, hhm, hget_mask, if_pos (List.mem_append.2 (.inl h1))]
  have hmask' : ∀ n cs, hget (mask (upd h r.h wn) (ft.1 ++ wn)) n = some cs → hget r.h n = some cs := by
    intro n cs hn
    rw [hget_mask] at hn
    split at hn
    · rename_i h1
      rw [hget_upd] at hn
      split at hn
      · exact hn
      · rename_i h2
        rcases List.mem_append.1 h1 with h1 | h1
        · rw [hkeep n h1 h2]; exact hn
        · exact absurd h1 h2
    · cases hn
  refine ⟨rfl, hd, fun s hs => ?_, fun n hn => ?_, hle, fun n hn => hlt' n (.inl hn), fun n hn => ?_, fun n h1 h2 => (hmem n).2 (.inr ⟨h1, h2⟩), fun n hn hx => ?_, ?_⟩
  · cases hdst : o.dst with
    | none => rfl
    | some d => simp only [put, get_cons]; rw [if_neg (fun e => hs (by simp only [hdst]; rw [e]))]
  · rw [hget_upd, if_neg hn]
  · rcases (hmem n).1 hn with h1 | h1
    · have := hlt' n (.inr h1); omega
    · exact h1.2
  · rcases (hmem n).1 hn with h1 | h1
    · exact wrOk_of hwr h1
    · omega
  · intro a w ν hs hz hdf hh next Q hK
    have hR : RA nx ν sz fm a := by rw [hfm]; exact RA.part hs hz hdf
    have hh' : RH nx ν hm w := hh.drop fun n cs hn => by rw [hmask]; exact hn
    obtain ⟨n, y, w', ν', h1, h2, h3, h4, h5, h6, h7⟩ := ev1_sound (P := P) (r := fun n => n ∈ wn) (o := o) hR.ev hh'
      (fun n hn => (hmem n).2 (.inl (by rw [hft, foot_snd (ev fm) h hm]; exact hn))) (by rw [← hr]; exact hok)
    rw [← hr] at h3 h5 h6 h7
    have hext : Ext (fun n => n ∈ wn) ν (mask h (ft.1 ++ wn)) w ν' (mask (upd h r.h wn) (ft.1 ++ wn)) w' :=
      ((Ext.drop (r := fun n => n ∈ wn) (ν := ν) (w := w) (h := mask h (ft.1 ++ wn)) (h' := hm) fun n cs hn => by rw [hmask]; exact hn).trans h7).trans (Ext.drop hmask')
    have hgo : next (a.put o.dst y) w' := by
      refine hK y ν' w' h4 (fun s hs' => ?_) (h6.drop hmask') hext
      simp only at hs'
      rw [hs']
      simp only [put, get_cons, if_true]
      exact h5
    unfold wpOp
    simp only [ho]
    rw [if_pos (hw a ν hs hz hdf)]
    left
    unfold Oper.wp
    rw [h1]
    rcases h2 with rfl | ⟨rfl, rfl⟩
    · exact hgo
    · exact hgo

/-- a call whose answer is known -/
theorem step_pure {ops : Array Oper} {sz j : Nat} {o : Oper} (ho : ops[j]? = some o) {f fm : Fr} {hm : Hp} {ft : List Nat × List Nat} {af : Nat} (hd : dstOk sz o.dst = true)
    (hfm : fm = (tmpsOf o ops).map fun t => (t, get f t)) (hhm : hm = mask h (ft.1 ++ ft.2))
    (hlt : ltAll nx (ft.1 ++ ft.2) = true) {c : Call} {x : Operand} (hc : o.op = .call c) (hx : c.callee = .value x) (hf2 : ft.2 = [])
    {g : Nat} {first caps : List V} (hfn : ev fm x = .fn g first caps) {sp : List V → Hp → Bool × V} (hsp : SpOk P g (.pure sp)) {r : Bool × V} (hr : r = sp (first ++ c.args.toList.map (ev fm) ++ caps) hm) (hok : r.1 = true)
    (hw : ∀ (a : Act) (ν : Nm), (∀ s ∈ tmpsOf o ops, RVn nx ν (get f s) (a.tmps.getD s undef)) → sz ≤ a.tmps.size → a.defers = [] → Region.wanted o (yielded ops a.tmps) = true) :
    StepOk P q ops sz j o ⟨tmpsOf o ops, o.dst, ft.1, [], af⟩ f h nx (put f o.dst r.2) h nx := by
  have hlt' : ∀ n, n ∈ ft.1 → n < nx := fun n hn => ltAll_of hlt (List.mem_append.2 (.inl hn))
  refine ⟨rfl, hd, fun s hs => ?_, fun n hn => rfl, Nat.le_refl _, hlt', fun n hn => by simp at hn, fun n h1 h2 => by omega, fun n hn => by simp at hn, ?_⟩
  · cases hdst : o.dst with
    | none => rfl
    | some d => simp only [put, get_cons]; rw [if_neg (fun e => hs (by simp only [hdst]; rw [e]))]
  · intro a w ν hs hz hdf hh next Q hK
    have hR : RA nx ν sz fm a := by rw [hfm]; exact RA.part hs hz hdf
    rw [hf2] at hhm
    simp only at hh hK
    rw [← hhm] at hh hK
    have hxx := hR.ev x
    rw [hfn] at hxx
    generalize hy : a.eval x = y at *
    have hx' := hxx.here
    cases hx' with
    | fn _ _ _ ys ys' k1 k2 =>
      have hargs : RLn nx ν (first ++ c.args.toList.map (ev fm) ++ caps) (ys ++ c.args.map a.eval ++ ys').toList := by
        simp only [Array.toList_append, Array.toList_map]
        refine RLn.append (RLn.append (fun ν' ha => ?_) (RLn.of_args hR.ev _)) (fun ν' ha => ?_)
        · have := hxx ν' ha
          cases this with | fn _ _ _ _ _ k1 k2 => exact k1
        · have := hxx ν' ha
          cases this with | fn _ _ _ _ _ k1 k2 => exact k2
      unfold wpOp
      simp only [ho]
      rw [if_pos (hw a ν hs hz hdf)]
      left
      refine Does.upon hc hx hy ?_
      refine (hsp _ _ hm nx ν w hargs hh (by rw [← hr]; exact hok)).mono fun y w' ⟨m1, m2, m3⟩ => ?_
      refine hK y ν w' (Agr.refl _ _) (fun s hs' => ?_) m2 m3.quiet
      rw [hs']
      simp only [put, get_cons, if_true]
      rw [hr]; exact m1

/-- an operation that is passed over -/
theorem step_skip' {ops : Array Oper} {sz j : Nat} {o : Oper} (ho : ops[j]? = some o) {f : Fr} {af : Nat} (hd : dstOk sz o.dst = true)
    (hw : ∀ (a : Act) (ν : Nm), (∀ s ∈ tmpsOf o ops, RVn nx ν (get f s) (a.tmps.getD s undef)) → sz ≤ a.tmps.size → a.defers = [] → Region.wanted o (yielded ops a.tmps) = false) :
    StepOk P q ops sz j o ⟨tmpsOf o ops, o.dst, [], [], af⟩ f h nx (put f o.dst .dk) h nx := by
  refine ⟨rfl, hd, fun s hs => ?_, fun n hn => rfl, Nat.le_refl _, fun n hn => by simp at hn, fun n hn => by simp at hn, fun n h1 h2 => by omega, fun n hn => by simp at hn, ?_⟩
  · cases hdst : o.dst with
    | none => rfl
    | some d => simp only [put, get_cons]; rw [if_neg (fun e => hs (by simp only [hdst]; rw [e]))]
  · intro a w ν hs hz hdf hh next Q hK
    unfold wpOp
    simp only [ho]
    rw [if_neg (by rw [hw a ν hs hz hdf]; simp)]
    refine hK undef ν w (Agr.refl _ _) (fun s hs' => ?_) hh (Ext.refl _ _ _ _)
    have hs' : o.dst = some s := hs'
    rw [hs']
    simp only [put, get_cons, if_true]
    exact rvn_x _

def feet (X : Nat → Foot) (fs : List Foot) (i : Nat) : Nat → List Foot
  | 0 => fs
  | k + 1 => X (i + k) :: feet X fs i k

theorem feet_shift {X X' : Nat → Foot} {x : Foot} {fs : List Foot} {i : Nat} (hx : X i = x) (hX : ∀ n, i < n → X n = X' n) : ∀ k, feet X fs i (k + 1) = feet X' (x :: fs) (i + 1) k
  | 0 => by simp [feet, hx]
  | k + 1 => by
    rw [feet, feet_shift hx hX k, feet, hX (i + (k + 1)) (by omega), show i + (k + 1) = i + 1 + k by omega]

structure Trace (P : Program) (q : Nat) (ops : Array Oper) (sz : Nat) (bs : List Nat) (l : List Oper) (i : Nat) (fs : List Foot) (X : Nat → Foot) (F : Nat → Fr) (H : Nat → Hp) (N : Nat → Nat) : Prop where
  step : ∀ k o, l[k]? = some o → StepOk P q ops sz (i + k) o (X (i + k)) (F (i + k)) (H (i + k)) (N (i + k)) (F (i + k + 1)) (H (i + k + 1)) (N (i + k + 1))
  after : ∀ k, k < l.length → (X (i + k)).after = bs.getD (i + k) 0
  fits : ∀ k, k < l.length → fits (X (i + k)) (feet X fs i k) = true

theorem StepOk.lt {ops : Array Oper} {sz j : Nat} {o : Oper} {x : Foot} {f f' : Fr} (hs : StepOk P q ops sz j o x f h nx f' h' nx') (hl : ∀ n cs, hget h n = some cs → n < nx) :
    ∀ n cs, hget h' n = some cs → n < nx' := by
  intro n cs hn
  by_cases hx : n ∈ x.wn
  · exact hs.wn n hx
  · rw [hs.heap n hx] at hn
    exact Nat.lt_of_lt_of_le (hl n cs hn) hs.le

def over {α : Type _} (i : Nat) (u : α) (U : Nat → α) : Nat → α := fun n => if n = i then u else U n
theorem over_same {α : Type _} (i : Nat) (u : α) (U : Nat → α) : over i u U i = u := if_pos rfl
theorem over_ne {α : Type _} {i n : Nat} (u : α) (U : Nat → α) (h : n ≠ i) : over i u U n = U n := if_neg h

theorem Trace.cons {ops : Array Oper} {sz : Nat} {bs : List Nat} {o : Oper} {l : List Oper} {i : Nat} {fs : List Foot} {x : Foot} {f f' : Fr} (hx : StepOk P q ops sz i o x f h nx f' h' nx')
    (ha : x.after = bs.getD i 0) (hf : Am.fits x fs = true) {X : Nat → Foot} {F : Nat → Fr} {H : Nat → Hp} {N : Nat → Nat}
    (ht : Trace P q ops sz bs l (i + 1) (x :: fs) X F H N) (h1 : F (i + 1) = f') (h2 : H (i + 1) = h') (h3 : N (i + 1) = nx') :
    Trace P q ops sz bs (o :: l) i fs (over i x X) (over i f F) (over i h H) (over i nx N) := by
  refine ⟨fun k o' ho => ?_, fun k hk => ?_, fun k hk => ?_⟩
  · cases k with
    | zero =>
      simp at ho; subst ho
      rw [Nat.add_zero, over_same, over_same, over_same, over_same, over_ne _ _ (by omega), over_ne _ _ (by omega), over_ne _ _ (by omega), h1, h2, h3]
      exact hx
    | succ k =>
      have := ht.step k o' (by simpa using ho)
      rw [show i + (k + 1) = i + 1 + k by omega]
      rw [over_ne _ _ (by omega), over_ne _ _ (by omega), over_ne _ _ (by omega), over_ne _ _ (by omega), over_ne _ _ (by omega), over_ne _ _ (by omega), over_ne _ _ (by omega)]
      exact this
  · cases k with
    | zero => rw [Nat.add_zero, over_same]; exact ha
    | succ k =>
      have := ht.after k (by simpa using hk)
      rw [show i + (k + 1) = i + 1 + k by omega, over_ne _ _ (by omega)]
      exact this
  · cases k with
    | zero => rw [Nat.add_zero, over_same]; exact hf
    | succ k =>
      have := ht.fits k (by simpa using hk)
      rw [feet_shift (X' := X) (x := x) (over_same _ _ _) (fun n hn => over_ne _ _ (by omega))]
      rw [show i + (k + 1) = i + 1 + k by omega, over_ne _ _ (by omega)]
      exact this

theorem drawOne_ok {E : List (Nat × Sp)} (hE : EnvOk P E) {ops : Array Oper} {sz j : Nat} {o : Oper} (ho : ops[j]? = some o) {f : Fr} {af : Nat} (hd : dstOk sz o.dst = true)
    (hw : ∀ (a : Act) (ν : Nm), (∀ s ∈ tmpsOf o ops, RVn nx ν (get f s) (a.tmps.getD s undef)) → sz ≤ a.tmps.size → a.defers = [] → Region.wanted o (yielded ops a.tmps) = true)
    (hhl : ∀ n cs, hget h n = some cs → n < nx)
    (hok : (drawOne P q E (ev ((tmpsOf o ops).map fun t => (t, get f t))) h nx o.op).ok = true) :
    StepOk P q ops sz j o ⟨tmpsOf o ops, o.dst, (drawOne P q E (ev ((tmpsOf o ops).map fun t => (t, get f t))) h nx o.op).rn, (drawOne P q E (ev ((tmpsOf o ops).map fun t => (t, get f t))) h nx o.op).wn, af⟩ f h nx
      (put f o.dst (drawOne P q E (ev ((tmpsOf o ops).map fun t => (t, get f t))) h nx o.op).v) (drawOne P q E (ev ((tmpsOf o ops).map fun t => (t, get f t))) h nx o.op).h (drawOne P q E (ev ((tmpsOf o ops).map fun t => (t, get f t))) h nx o.op).nx := by
  generalize hfm : ((tmpsOf o ops).map fun t => (t, get f t)) = fm at *
  rcases isValue_or o.op with ⟨c, x, hop, hx⟩ | hn
  · rw [hop] at hok ⊢
    simp only [drawOne, hx] at hok ⊢
    generalize hfn : ev fm x = v at *
    cases v <;> try (simp [DR.bad] at hok; done)
    rename_i g first caps
    dsimp only at hok ⊢
    cases hl : lk E g with
    | none => simp [hl, DR.bad] at hok
    | some sp =>
      simp only [hl] at hok ⊢
      cases sp with
      | gen _ => simp [DR.bad] at hok
      | pure sp =>
        dsimp only at hok ⊢
        simp only [Bool.and_eq_true] at hok
        exact step_pure ho hd hfm.symm rfl hok.2 hop hx (by simp [foot, hx]) hfn (hE g _ hl) rfl hok.1 hw
  · have e : drawOne P q E (ev fm) h nx o.op = drawEv1 P q (ev fm) h nx o.op := by
      cases hop : o.op <;> try rfl
      rename_i c
      simp only [drawOne]
      cases hcc : c.callee with
      | value x => exact absurd hcc (hn c x hop)
      | _ => rfl
    rw [e] at hok ⊢
    simp only [drawEv1, Bool.and_eq_true] at hok ⊢
    exact step_run ho hd hfm.symm rfl rfl rfl rfl hok.1.2 hok.2 hok.1.1 hw hhl

theorem evDraw_trace {E : List (Nat × Sp)} (hE : EnvOk P E) {ops : Array Oper} {sr : List Nat} {sz : Nat} {bs : List Nat} {K : Fr → Hp → Nat → Tree} {L : Lf} :
    ∀ (l : List Oper) (i : Nat) (fs : List Foot) (f : Fr) (h : Hp) (nx : Nat), (∀ k o, l[k]? = some o → ops[i + k]? = some o) → (∀ n cs, hget h n = some cs → n < nx) →
      (evDraw P q E ops sr sz bs l i fs f h nx K).sat L →
      ∃ X F H N, F i = f ∧ H i = h ∧ N i = nx ∧ Trace P q ops sz bs l i fs X F H N ∧ (K (F (i + l.length)) (H (i + l.length)) (N (i + l.length))).sat L
  | [], i, fs, f, h, nx, hops, hhl, hs =>
    ⟨fun _ => ⟨[], none, [], [], 0⟩, fun _ => f, fun _ => h, fun _ => nx, rfl, rfl, rfl, ⟨fun k o ho => by simp at ho, fun k hk => by simp at hk, fun k hk => by simp at hk⟩, hs⟩
  | o :: l, i, fs, f, h, nx, hops, hhl, hs => by
    have ho : ops[i]? = some o := hops 0 o rfl
    have hops' : ∀ k o', l[k]? = some o' → ops[i + 1 + k]? = some o' := fun k o' hk => by
      rw [show i + 1 + k = i + (k + 1) by omega]; exact hops (k + 1) o' (by simpa using hk)
    have go : ∀ (x : Foot) (f' : Fr) (h' : Hp) (nx' : Nat), StepOk P q ops sz i o x f h nx f' h' nx' → x.after = bs.getD i 0 → fits x fs = true →
        (evDraw P q E ops sr sz bs l (i + 1) (x :: fs) f' h' nx' K).sat L →
        ∃ X F H N, F i = f ∧ H i = h ∧ N i = nx ∧ Trace P q ops sz bs (o :: l) i fs X F H N ∧ (K (F (i + (o :: l).length)) (H (i + (o :: l).length)) (N (i + (o :: l).length))).sat L := by
      intro x f' h' nx' hx ha hf hs'
      obtain ⟨X, F, H, N, h1, h2, h3, ht, hK⟩ := evDraw_trace hE l (i + 1) (x :: fs) f' h' nx' hops' (hx.lt hhl) hs'
      refine ⟨over i x X, over i f F, over i h H, over i nx N, over_same _ _ _, over_same _ _ _, over_same _ _ _, Trace.cons hx ha hf ht h1 h2 h3, ?_⟩
      have : i + (o :: l).length = i + 1 + l.length := by simp; omega
      rw [this, over_ne _ _ (by omega), over_ne _ _ (by omega), over_ne _ _ (by omega)]
      exact hK
    cases hd : dstOk sz o.dst with
    | false => simp only [evDraw, hd, cond_false] at hs; exact hs.elim
    | true =>
    simp only [evDraw, hd, cond_true] at hs
    have run : (∀ (a : Act) (ν : Nm), (∀ s ∈ tmpsOf o ops, RVn nx ν (get f s) (a.tmps.getD s undef)) → sz ≤ a.tmps.size → a.defers = [] → Region.wanted o (yielded ops a.tmps) = true) →
        ∀ (r : DR), r = drawOne P q E (ev ((tmpsOf o ops).map fun t => (t, get f t))) h nx o.op →
        (bif r.ok && fits ⟨tmpsOf o ops, o.dst, r.rn, r.wn, bs.getD i 0⟩ fs then (bif memN i sr then (match r.v with
          | .b b => splitB b fun b => evDraw P q E ops sr sz bs l (i + 1) (⟨tmpsOf o ops, o.dst, r.rn, r.wn, bs.getD i 0⟩ :: fs) (put f o.dst (.b b)) r.h r.nx K
          | _ => .fail)
        else evDraw P q E ops sr sz bs l (i + 1) (⟨tmpsOf o ops, o.dst, r.rn, r.wn, bs.getD i 0⟩ :: fs) (put f o.dst r.v) r.h r.nx K) else .fail : Tree).sat L →
        ∃ X F H N, F i = f ∧ H i = h ∧ N i = nx ∧ Trace P q ops sz bs (o :: l) i fs X F H N ∧ (K (F (i + (o :: l).length)) (H (i + (o :: l).length)) (N (i + (o :: l).length))).sat L := by
      intro hw r hr hT
      cases hc : r.ok && fits ⟨tmpsOf o ops, o.dst, r.rn, r.wn, bs.getD i 0⟩ fs with
      | false => simp only [hc, cond_false] at hT; exact hT.elim
      | true =>
        simp only [hc, cond_true] at hT
        simp only [Bool.and_eq_true] at hc
        have hst : StepOk P q ops sz i o ⟨tmpsOf o ops, o.dst, r.rn, r.wn, bs.getD i 0⟩ f h nx (put f o.dst r.v) r.h r.nx := by
          rw [hr] at hc ⊢
          exact drawOne_ok hE ho hd hw hhl hc.1
        cases hm : memN i sr with
        | false => simp only [hm, cond_false] at hT; exact go _ _ _ _ hst rfl hc.2 hT
        | true =>
          simp only [hm, cond_true] at hT
          generalize r.v = v at *
          cases v <;> try exact hT.elim
          dsimp only at hT
          rw [sat_splitB] at hT
          exact go _ _ _ _ hst rfl hc.2 hT
    cases hg : o.guard with
    | none =>
      simp only [hg] at hs
      exact run (fun a ν _ _ _ => wanted_none hg _) _ rfl hs
    | some jw =>
      obtain ⟨j, want⟩ := jw
      simp only [hg] at hs
      cases hdj : (ops[j]?).bind (·.dst) with
      | none => simp only [hdj] at hs; exact hs.elim
      | some d =>
        simp only [hdj] at hs
        cases ht : get f d <;> simp only [ht] at hs <;> try exact hs.elim
        rename_i t
        have hw : ∀ (a : Act) (ν : Nm), (∀ s ∈ tmpsOf o ops, RVn nx ν (get f s) (a.tmps.getD s undef)) → sz ≤ a.tmps.size → a.defers = [] → Region.wanted o (yielded ops a.tmps) = (bif want then t else !t) := by
          intro a ν h1 h2 h3
          refine wanted_some hg (yielded_of (RA.part h1 h2 h3) hdj ?_)
          rw [get_map, if_pos (guard_mem hg hdj)]
          exact ht
        cases hb : (bif want then t else !t) with
        | true =>
          simp only [hb, cond_true] at hs
          exact run (fun a ν h1 h2 h3 => by rw [hw a ν h1 h2 h3]; exact hb) _ rfl hs
        | false =>
          simp only [hb, cond_false] at hs
          cases hf : fits ⟨tmpsOf o ops, o.dst, [], [], bs.getD i 0⟩ fs with
          | false => simp only [hf, cond_false] at hs; exact hs.elim
          | true =>
            simp only [hf, cond_true] at hs
            exact go _ _ _ _ (step_skip' ho hd fun a ν h1 h2 h3 => by rw [hw a ν h1 h2 h3]; exact hb) rfl hf hs

end Go.Am
