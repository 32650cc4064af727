/-
  A part of an abstract machine that runs a function's text over symbolic values, and of the proof that the machine is sound over the model. No condition.
-/
import Derived.Test.YtpojjdohonmnaaaRRRAmRegion3
namespace Go.Am
open Go Go.RowKit

variable {q : Nat} {P : Program} {nx nx' : Nat} {ν ν' : Nm} {h h' : Hp} {w w' : World}

/-! names by other names -/
def via (L : List Nat) (ν : Nm) : Nm := fun i => (L[i]?).bind ν

theorem idxN_spec (n : Nat) : ∀ (L : List Nat) (k i : Nat), idxN n L k = some i → k ≤ i ∧ L[i - k]? = some n
  | [], k, i, h => by simp [idxN] at h
  | a :: L, k, i, h => by
    simp only [idxN] at h
    cases hb : Nat.beq a n with
    | true =>
      simp only [hb, cond_true, Option.some.injEq] at h
      subst h
      have := Nat.eq_of_beq_eq_true hb
      simp [this]
    | false =>
      simp only [hb, cond_false] at h
      obtain ⟨h1, h2⟩ := idxN_spec n L (k + 1) i h
      refine ⟨by omega, ?_⟩
      rw [show i - k = (i - (k + 1)) + 1 by omega]
      simpa using h2

theorem via_idx {L : List Nat} {n i : Nat} (h : idxN n L 0 = some i) : via L ν i = ν n := by
  obtain ⟨_, h2⟩ := idxN_spec n L 0 i h
  rw [Nat.sub_zero] at h2
  simp [via, h2]

theorem renA_spec {L : List Nat} {a a' : A} (h : renA L a = some a') : via L ν a'.n = ν a.n ∧ a'.o = a.o ∧ a'.d = a.d := by
  unfold renA at h
  cases hi : idxN a.n L 0 with
  | none => simp [hi] at h
  | some i =>
    simp only [hi, Option.map_some, Option.some.injEq] at h
    subst h
    exact ⟨via_idx hi, rfl, rfl⟩

theorem RL.ren {L : List Nat} {k : Nat} (ih : ∀ v y, RV ν v y → RV (via L ν) (renV L k v) y) : ∀ {l : List V} {ys : List Value}, RL ν l ys → RL (via L ν) (l.map (renV L k)) ys
  | [], _, h => by cases h; exact .nil
  | a :: l, _, h => by cases h with | cons _ _ _ ys ha h => exact .cons _ _ _ _ (ih _ _ ha) (h.ren ih)

def renS (L : List Nat) (k : Nat) : Seg → Seg
  | .vs l => .vs (l.map (renV L k))
  | .fam n g => .fam n (fun j => renV L k (g j))
  | .ints a b c => .ints a b c

theorem renV_ag (L : List Nat) (k : Nat) (cs : List Seg) : renV L (k + 1) (.ag cs) = .ag (cs.map (renS L k)) := by
  simp only [renV]
  congr 1

theorem RC.ren {L : List Nat} {k : Nat} (ih : ∀ v y, RV ν v y → RV (via L ν) (renV L k v) y) : ∀ {cs : List Seg} {ys : List Value}, RC ν cs ys → RC (via L ν) (cs.map (renS L k)) ys
  | [], _, h => by cases h; exact .nil
  | s :: cs, _, h => by
    cases h with
    | cons _ _ ys zs hs h =>
      refine .cons _ _ _ _ ?_ (h.ren ih)
      cases hs with
      | ints k' n xs _ h1 h2 => exact .ints k' n xs _ h1 h2
      | fam n g _ h1 h2 h3 => exact .fam n _ _ h1 (fun i y hi => ih _ _ (h2 i y hi)) h3
      | vs l _ h1 h2 => exact .vs _ _ (h1.ren ih) h2

theorem RV.ren {L : List Nat} : ∀ (k : Nat) (v : V) (y : Value), RV ν v y → RV (via L ν) (renV L k v) y
  | 0, v, y, h => .dk y
  | k + 1, v, y, h => by
    have ih := fun v y (h : RV ν v y) => RV.ren (L := L) k v y h
    cases h with
    | dk y => exact .dk y
    | b t => exact .b t
    | i k n => exact .i k n
    | s s l h => exact .s s l h
    | pn => exact .pn
    | p a b sz hν =>
      simp only [renV]
      cases hr : renA L a with
      | none => exact .dk _
      | some a' =>
        obtain ⟨h1, h2, h3⟩ := renA_spec (ν := ν) hr
        rw [← h2, ← h3]
        exact .p a' b sz (h1.trans hν)
    | sln l c => exact .sln l c
    | sl a b sz off len cap hν h1 h2 =>
      simp only [renV]
      cases hr : renA L a with
      | none => exact .dk _
      | some a' =>
        obtain ⟨g1, g2, g3⟩ := renA_spec (ν := ν) hr
        exact .sl a' b sz off len cap (g1.trans hν) h1 (by rw [g2, g3]; exact h2)
    | sq a b sz off w len cap hν h1 h2 h3 =>
      simp only [renV]
      cases hr : renA L a with
      | none => exact .dk _
      | some a' =>
        obtain ⟨g1, g2, g3⟩ := renA_spec (ν := ν) hr
        exact .sq a' b sz off w len cap (g1.trans hν) h1 (by rw [g2, g3]; exact h2) h3
    | sqn a w len hν h1 =>
      simp only [renV]
      cases hr : renA L a with
      | none => exact .dk _
      | some a' =>
        obtain ⟨g1, g2, g3⟩ := renA_spec (ν := ν) hr
        exact .sqn a' w len (g1.trans hν) h1
    | fn g l l' ys ys' h1 h2 => exact .fn g _ _ ys ys' (h1.ren ih) (h2.ren ih)
    | nf => exact .nf
    | ag cs ys h1 => rw [renV_ag]; exact .ag _ ys (h1.ren ih)
    | tu l ys h1 => exact .tu _ ys (h1.ren ih)
    | ni => exact .ni
    | ifc t v y h1 => exact .ifc t _ y (ih _ _ h1)
    | mpn => exact .mpn

theorem via_grows {L : List Nat} {ν'' : Nm} (ha : Agr L.length (via L ν) ν'') : Grows (via L ν) ν'' := by
  intro n p hp
  have hn : n < L.length := by
    unfold via at hp
    rcases Nat.lt_or_ge n L.length with h1 | h1
    · exact h1
    · rw [List.getElem?_eq_none h1] at hp; simp at hp
  rw [ha n hn]; exact hp

theorem RVn.ren {L : List Nat} {v : V} {y : Value} (hv : RVn nx ν v y) (k : Nat) : RVn L.length (via L ν) (renV L k v) y :=
  fun _ ha => (RV.ren k v y hv.here).grow (via_grows ha)

theorem renC_eq (L : List Nat) (cs : List Seg) : renC L cs = cs.map (renS L 5) := by unfold renC; rw [renV_ag]

theorem RCn.ren {L : List Nat} {cs : List Seg} {ys : List Value} (hv : RCn nx ν cs ys) : RCn L.length (via L ν) (renC L cs) ys := by
  intro ν'' ha
  rw [renC_eq]
  exact (hv.here.ren (RV.ren 5)).grow (via_grows ha)

theorem hget_renH_go (L0 : List Nat) (h : Hp) : ∀ (L : List Nat) (k i : Nat), k ≤ i → hget (renH.go L0 h L k) i = (L[i - k]?).bind fun n => (hget h n).map (renC L0)
  | [], k, i, _ => by simp [renH.go, hget]
  | n :: L, k, i, hi => by
    rw [renH.go, hget_cons]
    split
    · rename_i e; subst e; simp
    · rename_i e
      rw [hget_renH_go L0 h L (k + 1) i (by omega), show i - k = (i - (k + 1)) + 1 by omega]
      simp

theorem hget_renH (L : List Nat) (h : Hp) (i : Nat) : hget (renH L h) i = (L[i]?).bind fun n => (hget h n).map (renC L) := by
  unfold renH
  rw [hget_renH_go L h L 0 i (Nat.zero_le _), Nat.sub_zero]

theorem hget_renH_some {L : List Nat} {h : Hp} {i : Nat} {cs : List Seg} (hi : hget (renH L h) i = some cs) : ∃ n cs0, L[i]? = some n ∧ hget h n = some cs0 ∧ cs = renC L cs0 := by
  rw [hget_renH] at hi
  cases hn : L[i]? with
  | none => simp [hn] at hi
  | some n =>
    simp only [hn, Option.bind_some] at hi
    cases hc : hget h n with
    | none => simp [hc] at hi
    | some cs0 =>
      simp only [hc, Option.map_some, Option.some.injEq] at hi
      exact ⟨n, cs0, rfl, hc, hi.symm⟩

theorem via_at {L : List Nat} {i n : Nat} (hn : L[i]? = some n) : via L ν i = ν n := by simp [via, hn]

theorem nodup_inj : ∀ {L : List Nat} (_ : L.Nodup) {i j : Nat} (hi : i < L.length) (hj : j < L.length), L[i] = L[j] → i = j
  | a :: L, hd, i, j, hi, hj, e => by
    obtain ⟨h1, h2⟩ := List.nodup_cons.1 hd
    cases i with
    | zero =>
      cases j with
      | zero => rfl
      | succ j => exact absurd (show a ∈ L by simp only [List.getElem_cons_zero, List.getElem_cons_succ] at e; rw [e]; exact List.getElem_mem _) h1
    | succ i =>
      cases j with
      | zero => exact absurd (show a ∈ L by simp only [List.getElem_cons_zero, List.getElem_cons_succ] at e; rw [← e]; exact List.getElem_mem _) h1
      | succ j =>
        have := nodup_inj (i := i) (j := j) h2 (by simpa using hi) (by simpa using hj) (by simpa using e)
        omega

theorem RH.ren {L : List Nat} (hd : L.Nodup) (hh : RH nx ν h w) : RH L.length (via L ν) (renH L h) w := by
  refine ⟨fun i cs hi => ?_, fun i cs b sz hi hν => ?_, fun i cs hi hν => ?_, fun i j cs cs' b sz sz' hi hj h1 h2 => ?_⟩
  · obtain ⟨n, cs0, h1, _, _⟩ := hget_renH_some hi
    exact (List.getElem?_eq_some_iff.1 h1).1
  · obtain ⟨n, cs0, h1, h2, rfl⟩ := hget_renH_some hi
    rw [via_at h1] at hν
    obtain ⟨c, e, fr, g1, g2, g3, ys, zs, g4, g5⟩ := hh.blk n cs0 b sz h2 hν
    exact ⟨c, e, fr, g1, g2, g3, ys, zs, g4, g5.ren⟩
  · obtain ⟨n, cs0, h1, h2, rfl⟩ := hget_renH_some hi
    rw [via_at h1] at hν
    exact (hh.nil n cs0 h2 hν).ren
  · obtain ⟨n, cs0, g1, g2, rfl⟩ := hget_renH_some hi
    obtain ⟨m, cs1, g3, g4, rfl⟩ := hget_renH_some hj
    rw [via_at g1] at h1
    rw [via_at g3] at h2
    have := hh.inj n m cs0 cs1 b sz sz' g2 g4 h1 h2
    subst this
    obtain ⟨l1, e1⟩ := List.getElem?_eq_some_iff.1 g1
    obtain ⟨l2, e2⟩ := List.getElem?_eq_some_iff.1 g3
    exact nodup_inj hd l1 l2 (e1.trans e2.symm)

/-! lists of names -/
theorem addN_nodup : ∀ (ns L : List Nat), L.Nodup → (addN L ns).Nodup
  | [], L, h => h
  | n :: ns, L, h => by
    rw [addN]
    apply addN_nodup ns
    cases hm : memN n L with
    | true => exact h
    | false =>
      simp only [cond_false]
      refine List.nodup_append.2 ⟨h, by simp, fun a ha b hb => ?_⟩
      simp at hb
      subst hb
      intro e
      subst e
      rw [memN_iff.2 ha] at hm
      cases hm

theorem addN_prefix : ∀ (ns L : List Nat), L <+: addN L ns
  | [], L => List.prefix_refl _
  | n :: ns, L => by
    rw [addN]
    refine List.IsPrefix.trans ?_ (addN_prefix ns _)
    cases hm : memN n L with
    | true => exact List.prefix_refl _
    | false => exact List.prefix_append _ _

theorem clo_nodup (h : Hp) : ∀ (k : Nat) (L : List Nat), L.Nodup → (clo h k L).Nodup
  | 0, L, hl => hl
  | k + 1, L, hl => clo_nodup h k _ (addN_nodup _ _ hl)

theorem clo_prefix (h : Hp) : ∀ (k : Nat) (L : List Nat), L <+: clo h k L
  | 0, L => List.prefix_refl _
  | k + 1, L => (addN_prefix _ L).trans (clo_prefix h k _)

structure Base (m : Nat) (L : List Nat) : Prop where
  nodup : L.Nodup
  low : ∀ i, i < m → L[i]? = some i

theorem Base.of (m : Nat) (h : Hp) (k : Nat) (ns : List Nat) : Base m (clo h k (addN (List.range m) ns)) := by
  refine ⟨clo_nodup h k _ (addN_nodup _ _ List.nodup_range), fun i hi => ?_⟩
  obtain ⟨t, ht⟩ := (addN_prefix ns (List.range m)).trans (clo_prefix h k _)
  rw [← ht, List.getElem?_append_left (by simpa using hi)]
  simp [hi]

theorem Base.agr {m : Nat} {L : List Nat} (hb : Base m L) : Agr m ν (via L ν) := fun i hi => via_at (hb.low i hi)

theorem Base.le {m : Nat} {L : List Nat} (hb : Base m L) : m ≤ L.length := by
  rcases Nat.lt_or_ge L.length m with h1 | h1
  · have := (List.getElem?_eq_some_iff.1 (hb.low L.length h1)).1
    omega
  · exact h1

theorem Base.up {m : Nat} {L : List Nat} (hb : Base m L) {i n : Nat} (hi : L[i]? = some n) (hm : m ≤ i) : m ≤ n := by
  rcases Nat.lt_or_ge n m with h1 | h1
  · have h2 := hb.low n h1
    obtain ⟨l1, e1⟩ := List.getElem?_eq_some_iff.1 hi
    obtain ⟨l2, e2⟩ := List.getElem?_eq_some_iff.1 h2
    have := nodup_inj hb.nodup l1 l2 (e1.trans e2.symm)
    omega
  · exact h1

theorem After.ren {m : Nat} {ν0 : Nm} {h0 : Hp} {w0 : World} {L : List Nat} (hb : Base m L) (hq : q ≤ m) (hA : After q m ν0 h0 w0 nx ν h w) : After q m ν0 h0 w0 L.length (via L ν) (renH L h) w := by
  refine ⟨hb.le, hA.agr.trans hb.agr, hA.ext.os, hA.ext.tape, hA.ext.output, hA.ext.size, hA.ext.old, fun i cs b sz hi hr hν => ?_⟩
  obtain ⟨n, cs0, h1, h2, _⟩ := hget_renH_some hi
  rw [via_at h1] at hν
  refine hA.ext.new n cs0 b sz h2 ?_ hν
  rcases Nat.lt_or_ge i m with h3 | h3
  · have := hb.low i h3
    rw [h1] at this
    cases this
    exact hr
  · exact Nat.le_trans hq (hb.up h1 h3)

theorem get_ren (L : List Nat) (k : Nat) (f : Fr) (t : Nat) : get (f.map fun p => (p.1, renV L k p.2)) t = renV L k (get f t) ∨ get (f.map fun p => (p.1, renV L k p.2)) t = .dk := by
  induction f with
  | nil => exact .inr rfl
  | cons p f ih =>
    obtain ⟨a, v⟩ := p
    simp only [List.map_cons, get_cons]
    split
    · exact .inl rfl
    · exact ih

/-! heads -/
theorem coerce_sound {f : Fr} {m : Nat} {ν0 : Nm} {h0 : Hp} {w0 : World} : ∀ (l : List (Nat × Option (IntKind × Nat))) (h : Hp) (nx : Nat) (ν : Nm), After q m ν0 h0 w0 nx ν h w → RH nx ν h w → ∀ {tm : Nat → Value}, (∀ t, RVn nx ν (get f t) (tm t)) →
    ∃ ν', After q m ν0 h0 w0 (coerce f h nx l).2.2 ν' (coerce f h nx l).2.1 w ∧ RH (coerce f h nx l).2.2 ν' (coerce f h nx l).2.1 w ∧ (∀ t, RVn (coerce f h nx l).2.2 ν' (get (coerce f h nx l).1 t) (tm t)) ∧
      nx ≤ (coerce f h nx l).2.2 ∧ Agr nx ν ν'
  | [], h, nx, ν, hA, hh, tm, hs => ⟨ν, hA, hh, fun t => rvn_x _, Nat.le_refl _, Agr.refl _ _⟩
  | (t, c) :: l, h, nx, ν, hA, hh, tm, hs => by
    have plain : ∃ ν', After q m ν0 h0 w0 (coerce f h nx l).2.2 ν' (coerce f h nx l).2.1 w ∧ RH (coerce f h nx l).2.2 ν' (coerce f h nx l).2.1 w ∧
        (∀ s, RVn (coerce f h nx l).2.2 ν' (get ((t, get f t) :: (coerce f h nx l).1) s) (tm s)) ∧ nx ≤ (coerce f h nx l).2.2 ∧ Agr nx ν ν' := by
      obtain ⟨ν', h1, h2, h3, h4, h5⟩ := coerce_sound l h nx ν hA hh hs
      refine ⟨ν', h1, h2, fun s => ?_, h4, h5⟩
      rw [get_cons]
      split
      · rename_i e; subst e; exact (hs t).mono h5 h4
      · exact h3 s
    cases c with
    | none => exact plain
    | some kw =>
      obtain ⟨k, wd⟩ := kw
      simp only [coerce]
      cases hn : nilList (get f t) with
      | false => exact plain
      | true =>
        simp only [cond_true]
        obtain ⟨g1, g2, g3⟩ := new_nil (r := Up q) hh (cs := [.ints k 0 []]) (fun ν' _ => .cons _ _ [] [] (.ints k 0 [] [] rfl rfl) .nil)
        have hA' : After q m ν0 h0 w0 (nx + 1) (setNm ν nx (some none)) ((nx, some [.ints k 0 []]) :: h) w := hA.trans ⟨Nat.le_succ _, g3, g2⟩
        obtain ⟨ν', h1, h2, h3, h4, h5⟩ := coerce_sound l _ _ _ hA' g1 (tm := tm) (fun s => (hs s).mono g3 (Nat.le_succ _))
        refine ⟨ν', h1, h2, fun s => ?_, by omega, g3.trans (h5.mono (Nat.le_succ _))⟩
        rw [get_cons]
        split
        · rename_i e; subst e
          have hv := (hs t).here
          have hnl : ∀ v, nilList v = true → ∀ y, RV ν v y → y = .slice none 0 0 := by
            intro v hv y hy
            cases hy <;> simp [nilList] at hv
            obtain ⟨rfl, rfl⟩ := hv
            rfl
          rw [hnl _ hn _ hv]
          intro ν'' ha
          refine .sqn _ _ _ ?_ rfl
          rw [ha nx (by omega), h5 nx (Nat.lt_succ_self _)]
          exact setNm_same _ _ _
        · exact h3 s

theorem mkHead_sound {hs : HeadSpec} {sz : Nat} {m : Nat} {ν0 : Nm} {h0 : Hp} {w0 : World} {todo : List Item} {f : Fr} {a : Act} {L : Lf} (hq : q ≤ m) (hA : After q m ν0 h0 w0 nx ν h w) (hR : RA nx ν sz f a) (hh : RH nx ν h w)
    (hsat : (mkHead m hs todo f h nx).sat L) : ∃ f' h' k ν', L.head todo f' h' k ∧ After q m ν0 h0 w0 k ν' h' w ∧ RA k ν' sz f' a ∧ RH k ν' h' w := by
  obtain ⟨ν', h1, h2, h3, h4, h5⟩ := coerce_sound hs.live h nx ν hA hh hR.slot
  unfold mkHead at hsat
  have hb := Base.of m (coerce f h nx hs.live).2.1 6 ((coerce f h nx hs.live).1.flatMap fun p => nmsV 5 p.2)
  refine ⟨_, _, _, _, hsat, h1.ren hb hq, ⟨fun t => ?_, hR.size, hR.defers⟩, h2.ren hb.nodup⟩
  rcases get_ren (clo (coerce f h nx hs.live).2.1 6 (addN (List.range m) ((coerce f h nx hs.live).1.flatMap fun p => nmsV 5 p.2))) 6 (coerce f h nx hs.live).1 t with e | e
  · rw [e]; exact (h3 t).ren 6
  · rw [e]; exact rvn_x _

/-- a call of a function, from its walk -/
theorem segF_sound (hP : ProgOk P) {E : List (Nat × Sp)} (hE : EnvOk P E) {n g : Nat} {ann : Ann} {args : List V} {ys : Array Value} {L : Lf} {R : Value → World → Prop} (hr : ann.r ≤ nx)
    (hargs : RLn nx ν args ys.toList) (hh : RH nx ν h w) (hs : (segF P E n g ann args h nx).sat L)
    (hret : ∀ v h' k ν' y w', L.ret v h' k → After ann.r nx ν h w k ν' h' w' → RVn k ν' v y → RH k ν' h' w' → R y w')
    (hhead : ∀ todo f h' k ν' a w' fn, P.funcs[g]? = some fn → L.head todo f h' k → After ann.r nx ν h w k ν' h' w' → RA k ν' fn.ntmps f a → RH k ν' h' w' → Goes P g todo a w' R) : Does P g ys w R := by
  unfold segF at hs
  cases hf : P.funcs[g]? with
  | none => simp only [hf] at hs; exact hs.elim
  | some fn =>
    simp only [hf] at hs
    cases hb : fn.body with
    | none => simp only [hb] at hs; exact hs.elim
    | some c =>
      simp only [hb] at hs
      refine Does.of_goes hP hf hb (seg_sound hP (regionOk hP) hE n hf _ _ _ h nx ν _ w (mkRet nx) L R rfl (RA.enter hargs _) hh hs ?_ ?_)
      · intro v h' nx' ν' y w' k1 k2 k3 k4
        have hb := Base.of nx h' 6 (nmsV 5 v)
        exact hret _ _ _ _ y w' k4 (k1.ren hb hr) (k2.ren 6) (k3.ren hb.nodup)
      · intro _ hs' todo' f' h' nx' ν' a' w' k1 k2 k3 k4
        obtain ⟨f2, h2, k, ν2, m1, m2, m3, m4⟩ := mkHead_sound hr k1 k2 k3 k4
        exact hhead _ _ _ _ _ _ _ fn hf m1 m2 m3 m4

/-- what a walk from a head shows -/
theorem head_sound (hP : ProgOk P) {E : List (Nat × Sp)} (hE : EnvOk P E) {n g : Nat} {fn : Func} (hf : P.funcs[g]? = some fn) {ann : Ann} {armed : Bool} {m : Nat} {todo : List Item} {f : Fr} {a : Act} {L : Lf} {R : Value → World → Prop}
    {ν0 : Nm} {h0 : Hp} {w0 : World} (hr : ann.r ≤ m) (hA : After ann.r m ν0 h0 w0 nx ν h w) (hR : RA nx ν fn.ntmps f a) (hh : RH nx ν h w)
    (hs : (seg P E n { r := ann.r, m := m, sz := fn.ntmps, rs := fn.results.toList, ann := ann, hd := true, armed := armed } todo f h nx (mkRet m)).sat L)
    (hret : ∀ v h' k ν' y w', L.ret v h' k → After ann.r m ν0 h0 w0 k ν' h' w' → RVn k ν' v y → RH k ν' h' w' → R y w')
    (hhead : ∀ todo f h' k ν' a w', L.head todo f h' k → After ann.r m ν0 h0 w0 k ν' h' w' → RA k ν' fn.ntmps f a → RH k ν' h' w' → Goes P g todo a w' R) : Goes P g todo a w R := by
  refine seg_sound hP (regionOk hP) hE n hf _ todo f h nx ν a w (mkRet m) L R rfl hR hh hs ?_ ?_
  · intro v h' nx' ν' y w' k1 k2 k3 k4
    have hb := Base.of m h' 6 (nmsV 5 v)
    exact hret _ _ _ _ y w' k4 ((hA.trans k1).ren hb hr) (k2.ren 6) (k3.ren hb.nodup)
  · intro _ hs' todo' f' h' nx' ν' a' w' k1 k2 k3 k4
    obtain ⟨f2, h2, k, ν2, m1, m2, m3, m4⟩ := mkHead_sound hr (hA.trans k1) k2 k3 k4
    exact hhead _ _ _ _ _ _ _ m1 m2 m3 m4

end Go.Am
