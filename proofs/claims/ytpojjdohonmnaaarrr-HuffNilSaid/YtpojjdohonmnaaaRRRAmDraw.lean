/-
  A part of an abstract machine that runs a function's text over symbolic values, and of the proof that the machine is sound over the model. No condition.
-/
import Derived.Test.YtpojjdohonmnaaaRRRAmWalk
namespace Go.Am
open Go Go.RowKit

variable {q : Nat} {P : Program} {nx nx' : Nat} {ν ν' : Nm} {h h' : Hp} {w w' : World} {ρ : Operand → V}

def Keeps (n : Nat) (h : Hp) (r : Res) : Prop := r.ok = true → hget r.h n = hget h n

theorem Keeps.bad {n : Nat} : Keeps n h bad := fun h => by simp [Am.bad] at h
theorem Keeps.same {n : Nat} {b : Bool} {v : V} {m : Nat} : Keeps n h ⟨b, v, h, m⟩ := fun _ => rfl
theorem Keeps.new {n : Nat} (hn : n < nx) {b : Bool} {v : V} {m : Nat} {cs : Option (List Seg)} : Keeps n h ⟨b, v, (nx, cs) :: h, m⟩ := fun _ => by
  rw [hget_cons, if_neg (by omega)]
theorem Keeps.at {n : Nat} {k : Nat} (hn : n ≠ k) {b : Bool} {v : V} {m : Nat} {cs : Option (List Seg)} : Keeps n h ⟨b, v, (k, cs) :: h, m⟩ := fun _ => by
  rw [hget_cons, if_neg (fun e => hn e.symm)]
theorem Keeps.new_at {n : Nat} {k : Nat} (hn : n ≠ k) (hx : n < nx) {b : Bool} {v : V} {m : Nat} {cs cs' : Option (List Seg)} : Keeps n h ⟨b, v, (nx, cs) :: (k, cs') :: h, m⟩ := fun _ => by
  rw [hget_cons, if_neg (by omega), hget_cons, if_neg (fun e => hn e.symm)]

theorem Keeps.cond {n : Nat} {b : Bool} {x y : Res} (hx : Keeps n h x) (hy : Keeps n h y) : Keeps n h (bif b then x else y) := by cases b <;> assumption

theorem ev1_keeps {h₀ : Hp} {op : Op} {n : Nat} (hn : n < nx) (hf : n ∉ (foot ρ h₀ op).2) : Keeps n h (ev1 P ρ h nx op) := by
  cases op <;> simp only [ev1] <;> (repeat' first
    | exact Keeps.bad
    | exact Keeps.same
    | exact Keeps.new hn
    | apply Keeps.cond
    | split)
  · rename_i a heq2 _ _ _ _ _ _
    exact Keeps.at fun e => hf (by simp [foot, heq2, nmOf, e])
  · rename_i a heq2 _ _ _ _ _
    exact Keeps.at fun e => hf (by simp [foot, heq2, nmOf, e])
  · rename_i hc _ _ _ _ _ _ _ _ _ _ _ _ heq _ _ _
    exact Keeps.new_at (fun e => hf (by simp [foot, hc, heq, e])) hn
  · rename_i hc _ _ _ _ _ _ _ _ _ _ _ _ _ _ _ _ _ heq _ _ _ _
    exact Keeps.at fun e => hf (by simp [foot, hc, heq, nmOf, e])
  · rename_i hc _ _ _ _ _ _ _ _ _ _ _ _ _ _ _ _ _ heq _ _ _ _
    exact Keeps.at fun e => hf (by simp [foot, hc, heq, nmOf, e])

theorem hget_map (h : Hp) (ns : List Nat) (n : Nat) (t : Hp) : hget (ns.map (fun n => (n, hget h n)) ++ t) n = if n ∈ ns then hget h n else hget t n := by
  induction ns with
  | nil => simp
  | cons m ns ih =>
    simp only [List.map_cons, List.cons_append, hget_cons, ih, List.mem_cons]
    by_cases e : m = n
    · subst e; simp
    · rw [if_neg e]
      by_cases e2 : n ∈ ns
      · rw [if_pos e2, if_pos (.inr e2)]
      · rw [if_neg e2, if_neg (fun e3 => e3.elim (fun e4 => e e4.symm) e2)]

theorem hget_mask (h : Hp) (ns : List Nat) (n : Nat) : hget (mask h ns) n = if n ∈ ns then hget h n else none := by
  have := hget_map h ns n []
  simpa [mask, hget] using this

theorem hget_upd (h r : Hp) (ns : List Nat) (n : Nat) : hget (upd h r ns) n = if n ∈ ns then hget r n else hget h n := by
  unfold upd
  have : ∀ (ns : List Nat), hget (ns.map (fun n => (n, hget r n)) ++ h) n = if n ∈ ns then hget r n else hget h n := fun ns => hget_map r ns n h
  exact this ns

theorem memN_iff {n : Nat} {l : List Nat} : memN n l = true ↔ n ∈ l := by
  induction l with
  | nil => simp [memN]
  | cons a l ih =>
    simp only [memN, List.mem_cons]
    cases hb : Nat.beq a n with
    | true => have := Nat.eq_of_beq_eq_true hb; simp [this]
    | false =>
      have : ¬ n = a := by intro e; subst e; simp at hb
      simp [this, ih]

theorem meet_of {a b : List Nat} {n : Nat} (ha : n ∈ a) (hb : n ∈ b) : meet a b = true := by
  induction a with
  | nil => simp at ha
  | cons m a ih =>
    simp only [meet, Bool.or_eq_true]
    rcases List.mem_cons.1 ha with rfl | ha
    · exact .inl (memN_iff.2 hb)
    · exact .inr (ih ha)

theorem Foot.clash_slot {a b : Foot} {s : Nat} (ha : a.wt = some s) (hb : s ∈ b.rt ∨ b.wt = some s) : a.clash b = true ∧ b.clash a = true := by
  unfold Foot.clash
  rcases hb with hb | hb
  · have := memN_iff.2 hb
    constructor <;> simp [ha, this]
  · constructor <;> simp [ha, hb]

theorem Foot.clash_name {a b : Foot} {n : Nat} (ha : n ∈ a.wn) (hb : n ∈ b.rn ∨ n ∈ b.wn) : a.clash b = true ∧ b.clash a = true := by
  unfold Foot.clash
  rcases hb with hb | hb
  · have := meet_of ha hb
    constructor <;> simp [this]
  · have h1 := meet_of ha hb
    have h2 := meet_of hb ha
    constructor <;> simp [h1, h2]

/-- what is known grows -/
def Grows (ν ν' : Nm) : Prop := ∀ n q, ν n = some q → ν' n = some q

mutual
theorem RV.grow (hg : Grows ν ν') : ∀ {v : V} {y : Value}, RV ν v y → RV ν' v y
  | _, _, .dk y => .dk y
  | _, _, .b t => .b t
  | _, _, .i k n => .i k n
  | _, _, .s s l h => .s s l h
  | _, _, .pn => .pn
  | _, _, .p a b sz h => .p a b sz (hg _ _ h)
  | _, _, .sln l c => .sln l c
  | _, _, .sl a b sz off l c h h1 h2 => .sl a b sz off l c (hg _ _ h) h1 h2
  | _, _, .sq a b sz off w l c h h1 h2 h3 => .sq a b sz off w l c (hg _ _ h) h1 h2 h3
  | _, _, .sqn a w l h h1 => .sqn a w l (hg _ _ h) h1
  | _, _, .fn g l l' ys ys' h h' => .fn g l l' ys ys' (h.grow hg) (h'.grow hg)
  | _, _, .nf => .nf
  | _, _, .ag cs ys h => .ag cs ys (h.grow hg)
  | _, _, .tu l ys h => .tu l ys (h.grow hg)
  | _, _, .ni => .ni
  | _, _, .ifc t v y h => .ifc t v y (h.grow hg)
  | _, _, .mpn => .mpn
theorem RL.grow (hg : Grows ν ν') : ∀ {l : List V} {ys : List Value}, RL ν l ys → RL ν' l ys
  | _, _, .nil => .nil
  | _, _, .cons v y l ys h h' => .cons v y l ys (h.grow hg) (h'.grow hg)
theorem RS.grow (hg : Grows ν ν') : ∀ {s : Seg} {ys : List Value}, RS ν s ys → RS ν' s ys
  | _, _, .ints k n xs ys h h' => .ints k n xs ys h h'
  | _, _, .fam n g ys h h' h'' => .fam n g ys h (fun i y hi => (h' i y hi).grow hg) h''
  | _, _, .vs l ys h h' => .vs l ys (h.grow hg) h'
theorem RC.grow (hg : Grows ν ν') : ∀ {cs : List Seg} {ys : List Value}, RC ν cs ys → RC ν' cs ys
  | _, _, .nil => .nil
  | _, _, .cons s cs ys zs h h' => .cons s cs ys zs (h.grow hg) (h'.grow hg)
end

/-- only the names below a bound -/
def cut (nx : Nat) (ν : Nm) : Nm := fun n => if n < nx then ν n else none

theorem agr_cut (nx : Nat) (ν : Nm) : Agr nx ν (cut nx ν) := fun n hn => by simp [cut, hn]
theorem cut_grows {nx : Nat} {ν ν' : Nm} (ha : Agr nx ν ν') : Grows (cut nx ν) ν' := by
  intro n q hq
  unfold cut at hq
  split at hq
  · rename_i hn; rw [ha n hn]; exact hq
  · cases hq

theorem RVn.of_cut {v : V} {y : Value} (hv : RV (cut nx ν) v y) : RVn nx ν v y := fun ν' ha => hv.grow (cut_grows ha)
theorem RCn.of_cut {cs : List Seg} {ys : List Value} (hv : RC (cut nx ν) cs ys) : RCn nx ν cs ys := fun ν' ha => hv.grow (cut_grows ha)
theorem cut_cut {nx nx' : Nat} {ν ν' : Nm} (hg : Grows ν ν') (hl : nx ≤ nx') : Grows (cut nx ν) (cut nx' ν') := by
  intro n q hq
  unfold cut at *
  split at hq
  · rw [if_pos (by omega)]; exact hg _ _ hq
  · cases hq
theorem RVn.grow {v : V} {y : Value} (hv : RVn nx ν v y) (hg : Grows ν ν') (hl : nx ≤ nx') : RVn nx' ν' v y :=
  RVn.of_cut ((hv _ (agr_cut nx ν)).grow (cut_cut hg hl))
theorem RCn.grow {cs : List Seg} {ys : List Value} (hv : RCn nx ν cs ys) (hg : Grows ν ν') (hl : nx ≤ nx') : RCn nx' ν' cs ys :=
  RCn.of_cut ((hv _ (agr_cut nx ν)).grow (cut_cut hg hl))

end Go.Am
