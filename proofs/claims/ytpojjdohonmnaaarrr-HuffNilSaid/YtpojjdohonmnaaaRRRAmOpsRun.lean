/-
  A part of an abstract machine that runs a function's text over symbolic values, and of the proof that the machine is sound over the model. No condition.
-/
import Derived.Test.YtpojjdohonmnaaaRRRAmRun
namespace Go.Am
open Go Go.RowKit

variable {q : Nat} {P : Program} {nx nx' : Nat} {r : Nat → Prop} {ν ν' : Nm} {h h' : Hp} {w w' : World}

theorem sat_splitB {b : Bool} {K : Bool → Tree} {L : Lf} : (splitB b K).sat L = (K b).sat L := by cases b <;> rfl

theorem yielded_of {ops : Array Oper} {j d : Nat} {sz : Nat} {f : Fr} {a : Act} (hR : RA nx ν sz f a) (hd : (ops[j]?).bind (·.dst) = some d) {t : Bool} (ht : get f d = .b t) :
    yielded ops a.tmps j = some t := by
  have h1 := (hR.slot d).here
  rw [ht] at h1
  unfold yielded
  rw [hd]
  simp only [Option.bind_some]
  rw [Array.getD_eq_getD_getElem?] at h1
  cases hg : a.tmps[d]? with
  | none => rw [hg] at h1; simp [undef] at h1; cases h1
  | some y => rw [hg] at h1; simp at h1; cases h1; rfl

theorem wanted_none {o : Oper} (ho : o.guard = none) (y : Nat → Option Bool) : Region.wanted o y = true := by simp [Region.wanted, ho]
theorem wanted_some {o : Oper} {j : Nat} {want t : Bool} (ho : o.guard = some (j, want)) {y : Nat → Option Bool} (hy : y j = some t) :
    Region.wanted o y = (bif want then t else !t) := by
  simp only [Region.wanted, ho, hy]
  cases want <;> cases t <;> rfl

theorem isValue_or (o : Op) : (∃ c x, o = .call c ∧ c.callee = .value x) ∨ ∀ c x, o = .call c → c.callee ≠ .value x := by
  cases o <;> try (right; intro c x e; cases e; done)
  rename_i c
  cases hc : c.callee with
  | value x => exact .inl ⟨c, x, rfl, hc⟩
  | builtin b => exact .inr fun c' x e => by cases e; rw [hc]; simp
  | invoke a b => exact .inr fun c' x e => by cases e; rw [hc]; simp

/-- an operation by itself -/
theorem ev1_wp {sz : Nat} {f : Fr} {a : Act} (hR : RA nx ν sz f a) (hh : RH nx ν h w) {o : Oper} (hok : (ev1 P (ev f) h nx o.op).ok = true)
    (hwr : wrOk q (foot (ev f) h o.op).2 = true) {next : Act → World → Prop} {Q : Exit → Act → World → Prop}
    (hK : ∀ y ν' w', After q nx ν h w (ev1 P (ev f) h nx o.op).nx ν' (ev1 P (ev f) h nx o.op).h w' → RVn (ev1 P (ev f) h nx o.op).nx ν' (ev1 P (ev f) h nx o.op).v y →
      RH (ev1 P (ev f) h nx o.op).nx ν' (ev1 P (ev f) h nx o.op).h w' → next (a.put o.dst y) w') : o.wp P a w next Q := by
  obtain ⟨n, y, w', ν', h1, h2, h3, h4, h5, h6, h7⟩ := ev1_sound (P := P) (r := Up q) (o := o) hR.ev hh
    (fun n hn => Nat.le_of_ble_eq_true (List.all_eq_true.1 hwr n hn)) hok
  unfold Oper.wp
  rw [h1]
  rcases h2 with rfl | ⟨rfl, rfl⟩
  · exact hK y ν' w' ⟨h3, h4, h7⟩ h5 h6
  · exact hK undef ν' w' ⟨h3, h4, h7⟩ h5 h6

theorem evOps_sound {E : List (Nat × Sp)} {inl : Caller} (hE : EnvOk P E) (hI : InlOk P q inl) {ops : Array Oper} {sr : List Nat} {sz : Nat} {K : Fr → Hp → Nat → Tree} {L : Lf}
    {Q : Exit → Act → World → Prop} : ∀ (l : List Oper) (i : Nat), (∀ k o, l[k]? = some o → ops[i + k]? = some o) → ∀ (f : Fr) (h : Hp) (nx : Nat) (ν : Nm) (a : Act) (w : World),
      RA nx ν sz f a → RH nx ν h w → (evOps P q E inl ops sr sz l i f h nx K).sat L →
      (∀ f' h' nx' ν' a' w', After q nx ν h w nx' ν' h' w' → RA nx' ν' sz f' a' → RH nx' ν' h' w' → (K f' h' nx').sat L → Q .normal a' w') →
      wpOps P ops Q (List.range' i l.length) a w
  | [], i, hops, f, h, nx, ν, a, w, hR, hh, hs, hQ => by
    simp only [List.length_nil, List.range'_zero, wpOps]
    exact hQ f h nx ν a w (After.refl _ _ _ _ _) hR hh hs
  | o :: l, i, hops, f, h, nx, ν, a, w, hR, hh, hs, hQ => by
    have ho : ops[i]? = some o := hops 0 o rfl
    have hops' : ∀ k o', l[k]? = some o' → ops[i + 1 + k]? = some o' := fun k o' hk => by
      rw [show i + 1 + k = i + (k + 1) by omega]; exact hops (k + 1) o' (by simpa using hk)
    have go : ∀ (v : V) (y : Value) (h' : Hp) (nx' : Nat) (ν' : Nm) (w' : World), After q nx ν h w nx' ν' h' w' → RVn nx' ν' v y → RH nx' ν' h' w' → dstOk sz o.dst = true →
        (evOps P q E inl ops sr sz l (i + 1) (put f o.dst v) h' nx' K).sat L → wpOps P ops Q (List.range' (i + 1) l.length) (a.put o.dst y) w' := by
      intro v y h' nx' ν' w' hA hv hh' hd hs'
      refine evOps_sound hE hI l (i + 1) hops' _ _ _ ν' _ _ ((hR.mono hA.agr hA.le).put hv hd) hh' hs' ?_
      intro f'' h'' nx'' ν'' a'' w'' hA' hR' hh'' hs''
      exact hQ f'' h'' nx'' ν'' a'' w'' (hA.trans hA') hR' hh'' hs''
    have next : ∀ (v : V) (y : Value) (h' : Hp) (nx' : Nat) (ν' : Nm) (w' : World), After q nx ν h w nx' ν' h' w' → RVn nx' ν' v y → RH nx' ν' h' w' → dstOk sz o.dst = true →
        (bif memN i sr then (match v with
        | .b b => splitB b fun b => evOps P q E inl ops sr sz l (i + 1) (put f o.dst (.b b)) h' nx' K
        | _ => .fail)
      else evOps P q E inl ops sr sz l (i + 1) (put f o.dst v) h' nx' K : Tree).sat L → wpOps P ops Q (List.range' (i + 1) l.length) (a.put o.dst y) w' := by
      intro v y h' nx' ν' w' hA hv hh' hd hs'
      cases hm : memN i sr with
      | false => simp only [hm, cond_false] at hs'; exact go v y h' nx' ν' w' hA hv hh' hd hs'
      | true =>
        simp only [hm, cond_true] at hs'
        cases v <;> try exact hs'.elim
        rename_i b
        dsimp only at hs'
        rw [sat_splitB] at hs'
        exact go (.b b) y h' nx' ν' w' hA hv hh' hd hs'
    rw [List.length_cons, List.range'_succ, wpOps_cons]
    unfold wpOp
    simp only [ho]
    cases hd : dstOk sz o.dst with
    | false => simp only [evOps, hd, cond_false] at hs; exact hs.elim
    | true =>
    simp only [evOps, hd, cond_true] at hs
    have run : (match o.op with
      | .call c => match c.callee with
        | .value _ => evCall q E inl (ev f) h nx c fun v h nx => (bif memN i sr then (match v with
        | .b b => splitB b fun b => evOps P q E inl ops sr sz l (i + 1) (put f o.dst (.b b)) h nx K
        | _ => .fail)
      else evOps P q E inl ops sr sz l (i + 1) (put f o.dst v) h nx K : Tree)
        | _ => let r := ev1 P (ev f) h nx o.op; bif r.ok && wrOk q (foot (ev f) h o.op).2 then (bif memN i sr then (match r.v with
        | .b b => splitB b fun b => evOps P q E inl ops sr sz l (i + 1) (put f o.dst (.b b)) r.h r.nx K
        | _ => .fail)
      else evOps P q E inl ops sr sz l (i + 1) (put f o.dst r.v) r.h r.nx K : Tree) else .fail
      | op => let r := ev1 P (ev f) h nx op; bif r.ok && wrOk q (foot (ev f) h op).2 then (bif memN i sr then (match r.v with
        | .b b => splitB b fun b => evOps P q E inl ops sr sz l (i + 1) (put f o.dst (.b b)) r.h r.nx K
        | _ => .fail)
      else evOps P q E inl ops sr sz l (i + 1) (put f o.dst r.v) r.h r.nx K : Tree) else .fail : Tree).sat L → o.wp P a w (wpOps P ops Q (List.range' (i + 1) l.length)) Q := by
      intro hs'
      rcases isValue_or o.op with ⟨c, x, hc, hx⟩ | hn
      · simp only [hc, hx] at hs'
        exact evCall_sound hE hI hR.ev hh hc hx hs' fun v y h' nx' ν' w' k1 k2 k3 k4 => next v y h' nx' ν' w' k1 k2 k3 hd k4
      · have hs2 : (bif (ev1 P (ev f) h nx o.op).ok && wrOk q (foot (ev f) h o.op).2 then (bif memN i sr then (match (ev1 P (ev f) h nx o.op).v with
            | .b b => splitB b fun b => evOps P q E inl ops sr sz l (i + 1) (put f o.dst (.b b)) (ev1 P (ev f) h nx o.op).h (ev1 P (ev f) h nx o.op).nx K
            | _ => .fail)
          else evOps P q E inl ops sr sz l (i + 1) (put f o.dst (ev1 P (ev f) h nx o.op).v) (ev1 P (ev f) h nx o.op).h (ev1 P (ev f) h nx o.op).nx K : Tree) else .fail : Tree).sat L := by
          cases hop : o.op <;> simp only [hop] at hs' ⊢ <;> try exact hs'
          rename_i c
          cases hcc : c.callee with
          | value x => exact absurd hcc (hn c x hop)
          | _ => simp only [hcc] at hs'; exact hs'
        cases hok : (ev1 P (ev f) h nx o.op).ok && wrOk q (foot (ev f) h o.op).2 with
        | false => simp only [hok, cond_false] at hs2; exact hs2.elim
        | true =>
          simp only [hok, cond_true] at hs2
          simp only [Bool.and_eq_true] at hok
          exact ev1_wp hR hh hok.1 hok.2 fun y ν' w' k1 k2 k3 => next _ y _ _ ν' w' k1 k2 k3 hd hs2
    cases hg : o.guard with
    | none =>
      simp only [hg] at hs
      rw [if_pos (wanted_none hg _)]
      exact .inl (run hs)
    | some jw =>
      obtain ⟨j, want⟩ := jw
      simp only [hg] at hs
      cases hdj : (ops[j]?).bind (·.dst) with
      | none => simp only [hdj] at hs; exact hs.elim
      | some d =>
        simp only [hdj] at hs
        cases ht : get f d <;> simp only [ht] at hs <;> try exact hs.elim
        rename_i t
        rw [wanted_some hg (yielded_of hR hdj ht)]
        cases hb : (bif want then t else !t) with
        | true =>
          simp only [hb, cond_true] at hs
          exact .inl (run hs)
        | false =>
          simp only [hb, cond_false] at hs
          simp only [Bool.false_eq_true, if_false]
          exact go .dk undef h nx ν w (After.refl _ _ _ _ _) (rvn_x _) hh hd hs

end Go.Am
