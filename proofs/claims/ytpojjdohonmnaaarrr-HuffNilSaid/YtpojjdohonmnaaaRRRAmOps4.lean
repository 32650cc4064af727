/-
  A part of an abstract machine that runs a function's text over symbolic values, and of the proof that the machine is sound over the model. No condition.
-/
import Derived.Test.YtpojjdohonmnaaaRRRAmOps3
import Derived.Laws.StructEq
namespace Go.Am
open Go Go.RowKit

variable {P : Program} {nx : Nat} {r : Nat → Prop} {ν : Nm} {h : Hp} {w : World} {ρ : Operand → V} {σ : Operand → Value} {o : Oper}

/-! comparing values of whole numbers -/
def asInts : List IntKind → List Int → List Value
  | k :: ks, n :: ns => .int k n :: asInts ks ns
  | _, _ => []

theorem asInts_length : ∀ (ks : List IntKind) (ns : List Int), ks.length = ns.length → (asInts ks ns).length = ks.length
  | [], [], _ => rfl
  | _ :: ks, _ :: ns, h => by simp [asInts, asInts_length ks ns (by simpa using h)]

theorem asInts_append : ∀ (ks : List IntKind) (ns : List Int) (ks' : List IntKind) (ns' : List Int), ks.length = ns.length → asInts (ks ++ ks') (ns ++ ns') = asInts ks ns ++ asInts ks' ns'
  | [], [], _, _, _ => by simp [asInts]
  | k :: ks, n :: ns, ks', ns', h => by simp [asInts, asInts_append ks ns ks' ns' (by simpa using h)]

theorem asInts_replicate (k : IntKind) : ∀ (ns : List Int), asInts (List.replicate ns.length k) ns = ns.map (Value.int k)
  | [] => rfl
  | n :: ns => by simp [List.replicate_succ, asInts, asInts_replicate k ns]

theorem asInts_get : ∀ (ks : List IntKind) (ns : List Int) (i : Nat), ks.length = ns.length → (asInts ks ns)[i]? = match ks[i]?, ns[i]? with | some k, some n => some (.int k n) | _, _ => none
  | [], [], i, _ => by simp [asInts]
  | k :: ks, n :: ns, 0, _ => by simp [asInts]
  | k :: ks, n :: ns, i + 1, h => by simp [asInts, asInts_get ks ns i (by simpa using h)]

theorem asInts_drop : ∀ (d : Nat) (ks : List IntKind) (ns : List Int), ks.length = ns.length → (asInts ks ns).drop d = asInts (ks.drop d) (ns.drop d)
  | 0, ks, ns, _ => by simp
  | d + 1, [], [], _ => by simp [asInts]
  | d + 1, k :: ks, n :: ns, h => by simp [asInts, asInts_drop d ks ns (by simpa using h)]

theorem asInts_take : ∀ (d : Nat) (ks : List IntKind) (ns : List Int), ks.length = ns.length → (asInts ks ns).take d = asInts (ks.take d) (ns.take d)
  | 0, ks, ns, _ => by simp [asInts]
  | d + 1, [], [], _ => by simp [asInts]
  | d + 1, k :: ks, n :: ns, h => by simp [asInts, asInts_take d ks ns (by simpa using h)]

/-- what comparing two values of a type gives -/
def EqAt (P : Program) (d : Nat) (t : TypeId) (ks : List IntKind) : Prop :=
  ∀ (as bs : List Int) (w : World), as.length = ks.length → bs.length = ks.length → ∀ x y : Value, x.cells.toList = asInts ks as → y.cells.toList = asInts ks bs →
    (aggOf P t = true → ∃ c, x = .agg c) → (aggOf P t = true → ∃ c, y = .agg c) → (aggOf P t = false → x.oneCell' = true ∧ y.oneCell' = true) →
    (Op.equalIn d t x y).run P w = .ok (as == bs) w

theorem beq_cons_append (a b c d : List Int) (h : a.length = b.length) : ((a ++ c) == (b ++ d)) = ((a == b) && (c == d)) := by
  induction a generalizing b with
  | nil => cases b with | nil => simp | cons => simp at h
  | cons x a ih => cases b with
    | nil => simp at h
    | cons y b => 
      have := ih b (by simpa using h)
      simp only [List.cons_append, List.cons_beq_cons, this, Bool.and_assoc]

theorem aggOf_kind {t : TypeId} {d : TypeDesc} (hu : P.underlying t = some d) : aggK P t = some (aggOf P t) := by
  simp only [aggK, aggOf, hu, Option.map_some]
  cases d <;> rfl

theorem run_part {t : TypeId} {q : Bool} (hk : aggK P t = some q) {cs : Array Value} {off : Nat} (w : World) {ks : List IntKind} {ns : List Int} (hl : ks.length = ns.length)
    (hc : cs.toList = asInts ks ns) (hsz : off + P.cellsOf t ≤ ks.length) (h1 : q = false → P.cellsOf t = 1) :
    ∃ y, (part t cs off).run P w = .ok y w ∧ y.cells.toList = asInts ((ks.drop off).take (P.cellsOf t)) ((ns.drop off).take (P.cellsOf t)) ∧
      (q = true → ∃ c, y = .agg c) ∧ (q = false → y.oneCell' = true) := by
  cases q with
  | true =>
    refine ⟨.agg (cs.extract off (off + P.cellsOf t)), ?_, ?_, fun _ => ⟨_, rfl⟩, fun h => by simp at h⟩
    · simp only [part, Sem.run_bind, run_isAgg hk, Result.andThen_ok, if_true, run_sizeOf (aggK_tyOk hk), Sem.run_pure]
    · show (cs.extract off (off + P.cellsOf t)).toList = _
      rw [Array.toList_extract, List.extract_eq_take_drop, hc, asInts_drop _ _ _ hl, asInts_take _ _ _ (by simp; omega)]
      simp
  | false =>
    have hs := h1 rfl
    have hk1 : off < ks.length := by omega
    have hn1 : off < ns.length := by omega
    have hget : cs[off]? = some (.int ks[off] ns[off]) := by
      rw [← Array.getElem?_toList, hc, asInts_get _ _ _ hl, List.getElem?_eq_getElem hk1, List.getElem?_eq_getElem hn1]
    refine ⟨.int ks[off] ns[off], ?_, ?_, fun h => by simp at h, fun _ => rfl⟩
    · simp only [part, Sem.run_bind, run_isAgg hk, Result.andThen_ok, Bool.false_eq_true, if_false, hget, Sem.run_pure]
    · rw [hs, List.drop_eq_getElem_cons hk1, List.drop_eq_getElem_cons hn1]; rfl

theorem tyKs_agg : ∀ (d : Nat) (t : TypeId) (ks : List IntKind), tyKs P d t = some ks → ks.length = P.cellsOf t ∨ aggOf P t = true
  | 0, t, ks, h => by simp [tyKs] at h
  | d + 1, t, ks, h => by
    simp only [tyKs] at h
    split at h
    · left
      rename_i k hu
      cases hb : Nat.beq (P.cellsOf t) 1 with
      | false => simp [hb] at h
      | true => simp [hb] at h; subst h; have : P.cellsOf t = 1 := by simpa using hb
                simp [this]
    · right; rename_i n e hu; simp [aggOf, hu]
    · right; rename_i fs hu; simp [aggOf, hu]
    · simp at h

theorem flat_drop_take {α : Type _} (l : List α) : ∀ (n i : Nat), i < n → (((List.replicate n l).flatten).drop (i * l.length)).take l.length = l
  | 0, i, h => by omega
  | n + 1, 0, _ => by simp [List.replicate_succ]
  | n + 1, i + 1, h => by
    rw [List.replicate_succ, List.flatten_cons, List.drop_append, List.drop_eq_nil_of_le (by rw [Nat.succ_mul]; omega), List.nil_append]
    have : (i + 1) * l.length - l.length = i * l.length := by rw [Nat.succ_mul]; omega
    rw [this]
    exact flat_drop_take l n i (by omega)

theorem flat_length {α : Type _} (l : List α) (n : Nat) : ((List.replicate n l).flatten).length = n * l.length := by
  simp

theorem split_at {α : Type _} (l : List α) (a s : Nat) : l.drop a = (l.drop a).take s ++ l.drop (a + s) := by
  rw [← List.drop_drop, List.take_append_drop]

theorem run_eqLoop (d : Nat) (e : TypeId) (l : List IntKind) (he : EqAt P d e l) (hl : l.length = P.cellsOf e) {q : Bool} (hk : aggK P e = some q) (hq : aggOf P e = q) (h1 : q = false → P.cellsOf e = 1)
    (xs ys : Array Value) (as bs : List Int) (n : Nat) (hxs : xs.toList = asInts (List.replicate n l).flatten as) (hys : ys.toList = asInts (List.replicate n l).flatten bs)
    (hla : as.length = n * P.cellsOf e) (hlb : bs.length = n * P.cellsOf e) (w : World) :
    ∀ (m i : Nat), i + m = n → (forIn (List.range' i m) ((none, ()) : Option Bool × Unit) (fun j _ => do
        let a ← part e xs (j * P.cellsOf e)
        let b ← part e ys (j * P.cellsOf e)
        let r ← Op.equalIn d e a b
        if (!r) = true then pure (ForInStep.done (some false, ())) else pure (ForInStep.yield (none, ())) : Nat → Option Bool × Unit → Sem (ForInStep (Option Bool × Unit)))).run P w =
      .ok (if as.drop (i * P.cellsOf e) == bs.drop (i * P.cellsOf e) then none else some false, ()) w := by
  intro m
  induction m with
  | zero =>
    intro i hi
    have : i = n := by omega
    subst this
    rw [List.drop_eq_nil_of_le (by omega), List.drop_eq_nil_of_le (by omega)]
    simp
  | succ m ih =>
    intro i hi
    have hin : i < n := by omega
    have hmul : i * P.cellsOf e + P.cellsOf e ≤ n * P.cellsOf e := by rw [← Nat.succ_mul]; exact Nat.mul_le_mul_right _ hin
    have hfl : ((List.replicate n l).flatten).length = n * P.cellsOf e := by rw [flat_length, hl]
    obtain ⟨x, x1, x2, x3, x4⟩ := run_part hk w (ks := (List.replicate n l).flatten) (ns := as) (by rw [hfl, hla]) hxs (off := i * P.cellsOf e) (by rw [hfl]; exact hmul) h1
    obtain ⟨y, y1, y2, y3, y4⟩ := run_part hk w (ks := (List.replicate n l).flatten) (ns := bs) (by rw [hfl, hlb]) hys (off := i * P.cellsOf e) (by rw [hfl]; exact hmul) h1
    have hks : (((List.replicate n l).flatten).drop (i * P.cellsOf e)).take (P.cellsOf e) = l := by rw [← hl]; exact flat_drop_take l n i hin
    rw [hks] at x2 y2
    have hr := he ((as.drop (i * P.cellsOf e)).take (P.cellsOf e)) ((bs.drop (i * P.cellsOf e)).take (P.cellsOf e)) w (by simp; omega) (by simp; omega) x y x2 y2
      (fun h => x3 (by rw [← hq, h])) (fun h => y3 (by rw [← hq, h])) (fun h => ⟨x4 (by rw [← hq, h]), y4 (by rw [← hq, h])⟩)
    have hsucc : i * P.cellsOf e + P.cellsOf e = (i + 1) * P.cellsOf e := by rw [Nat.succ_mul]
    have hsplit : (as.drop (i * P.cellsOf e) == bs.drop (i * P.cellsOf e)) =
        (((as.drop (i * P.cellsOf e)).take (P.cellsOf e) == (bs.drop (i * P.cellsOf e)).take (P.cellsOf e)) && (as.drop ((i + 1) * P.cellsOf e) == bs.drop ((i + 1) * P.cellsOf e))) := by
      conv => lhs; rw [split_at as (i * P.cellsOf e) (P.cellsOf e), split_at bs (i * P.cellsOf e) (P.cellsOf e)]
      rw [beq_cons_append _ _ _ _ (by simp; omega), hsucc]
    rw [List.range'_succ, List.forIn_cons, hsplit]
    simp only [Sem.run_bind, x1, y1, hr, Result.andThen_ok]
    cases hb : ((as.drop (i * P.cellsOf e)).take (P.cellsOf e) == (bs.drop (i * P.cellsOf e)).take (P.cellsOf e)) with
    | false => simp
    | true =>
      simp only [Bool.not_true, Bool.false_eq_true, if_false, Sem.run_pure, Result.andThen_ok, Bool.true_and]
      exact ih (i + 1) (by omega)

theorem ksEq_eq : ∀ {a b : List IntKind}, ksEq a b = true → a = b
  | [], [], _ => rfl
  | x :: a, y :: b, h => by
    simp only [ksEq, Bool.and_eq_true] at h
    rw [kEq_eq h.1, ksEq_eq h.2]

theorem tyKs_props : ∀ (d : Nat) (t : TypeId) (ks : List IntKind), tyKs P d t = some ks →
    (∃ q, aggK P t = some q ∧ aggOf P t = q ∧ (q = false → P.cellsOf t = 1 ∧ ks.length = 1)) := by
  intro d t ks h
  cases d with
  | zero => simp [tyKs] at h
  | succ d =>
    simp only [tyKs] at h
    split at h
    · rename_i k hu
      cases hb : Nat.beq (P.cellsOf t) 1 with
      | false => simp [hb] at h
      | true =>
        simp [hb] at h; subst h
        refine ⟨false, by simp [aggK, hu], by simp [aggOf, hu], fun _ => ⟨by simpa using hb, rfl⟩⟩
    · rename_i n e hu; exact ⟨true, by simp [aggK, hu], by simp [aggOf, hu], fun h => by simp at h⟩
    · rename_i fs hu; exact ⟨true, by simp [aggK, hu], by simp [aggOf, hu], fun h => by simp at h⟩
    · simp at h

theorem run_eqFields (d : Nat) (rec : TypeId → Option (List IntKind)) (hrec : ∀ t ks, rec t = some ks → EqAt P d t ks ∧ ∃ q, aggK P t = some q ∧ aggOf P t = q ∧ (q = false → P.cellsOf t = 1 ∧ ks.length = 1))
    (w : World) : ∀ (fs : List Field) (off : Nat) (ks ks0 : List IntKind) (as bs : List Int) (xs ys : Array Value), tyKs.fldKs rec P.cellsOf fs off = some ks →
    ks0.length = off → as.length = (ks0 ++ ks).length → bs.length = (ks0 ++ ks).length → xs.toList = asInts (ks0 ++ ks) as → ys.toList = asInts (ks0 ++ ks) bs →
    (Op.eqFields d xs ys fs).run P w = .ok (as.drop off == bs.drop off) w
  | [], off, ks, ks0, as, bs, xs, ys, h, h0, ha, hb, hx, hy => by
    simp [tyKs.fldKs] at h
    subst h
    rw [List.drop_eq_nil_of_le (by simp at ha; omega), List.drop_eq_nil_of_le (by simp at hb; omega)]
    simp [Op.eqFields]
  | f :: fs, off, ks, ks0, as, bs, xs, ys, h, h0, ha, hb, hx, hy => by
    simp only [tyKs.fldKs] at h
    cases hr : rec f.type with
    | none => simp [hr] at h
    | some l =>
      simp only [hr] at h
      cases hc : (Nat.beq f.offset off && Nat.beq l.length (P.cellsOf f.type) && !(f.name == "_")) with
      | false => simp [hc] at h
      | true =>
        simp only [hc, cond_true] at h
        simp only [Bool.and_eq_true, Bool.not_eq_true'] at hc
        obtain ⟨⟨c1, c2⟩, c3⟩ := hc
        have c1 : f.offset = off := by simpa using c1
        have c2 : l.length = P.cellsOf f.type := by simpa using c2
        have c3 : f.name ≠ "_" := by simpa using c3
        cases hf : tyKs.fldKs rec P.cellsOf fs (off + l.length) with
        | none => simp [hf] at h
        | some ks' =>
          simp [hf] at h
          subst h
          obtain ⟨he, q, q1, q2, q3⟩ := hrec _ _ hr
          have hlen : (ks0 ++ (l ++ ks')).length = as.length := ha.symm
          have hlenb : (ks0 ++ (l ++ ks')).length = bs.length := hb.symm
          have hsz : off + P.cellsOf f.type ≤ (ks0 ++ (l ++ ks')).length := by simp; omega
          obtain ⟨x, x1, x2, x3, x4⟩ := run_part q1 w (off := off) hlen hx hsz (fun e => (q3 e).1)
          obtain ⟨y, y1, y2, y3, y4⟩ := run_part q1 w (off := off) hlenb hy hsz (fun e => (q3 e).1)
          have hks : ((ks0 ++ (l ++ ks')).drop off).take (P.cellsOf f.type) = l := by
            rw [← h0, List.drop_left, ← c2, List.take_left]
          rw [hks] at x2 y2
          simp only [List.length_append] at ha hb
          have hrr := he ((as.drop off).take (P.cellsOf f.type)) ((bs.drop off).take (P.cellsOf f.type)) w (by simp; omega) (by simp; omega) x y x2 y2
            (fun h => x3 (by rw [← q2, h])) (fun h => y3 (by rw [← q2, h])) (fun h => ⟨x4 (by rw [← q2, h]), y4 (by rw [← q2, h])⟩)
          have ih := run_eqFields d rec hrec w fs (off + l.length) ks' (ks0 ++ l) as bs xs ys hf (by simp; omega) (by simp; omega) (by simp; omega) (by simpa using hx) (by simpa using hy)
          have hsplit : (as.drop off == bs.drop off) = (((as.drop off).take (P.cellsOf f.type) == (bs.drop off).take (P.cellsOf f.type)) && (as.drop (off + l.length) == bs.drop (off + l.length))) := by
            conv => lhs; rw [split_at as off (P.cellsOf f.type), split_at bs off (P.cellsOf f.type)]
            rw [beq_cons_append _ _ _ _ (by simp; omega), c2]
          rw [hsplit]
          simp only [Op.eqFields, c1, c3, ne_eq, not_false_eq_true, if_true, Sem.run_bind, x1, y1, hrr, Result.andThen_ok]
          cases hb : ((as.drop off).take (P.cellsOf f.type) == (bs.drop off).take (P.cellsOf f.type)) with
          | false => simp
          | true => simp only [Bool.not_true, Bool.false_eq_true, if_false, Bool.true_and]; exact ih

theorem tyKs_sound : ∀ (d : Nat) (t : TypeId) (ks : List IntKind), tyKs P d t = some ks → ∀ m, d ≤ m → EqAt P m t ks
  | 0, t, ks, h, m, hm => by simp [tyKs] at h
  | d + 1, t, ks, h, 0, hm => by omega
  | d + 1, t, ks, h, m + 1, hm => by
    have hprops := tyKs_props _ _ _ h
    simp only [tyKs] at h
    intro as bs w ha hb x y hx hy hxa hya hxo
    split at h
    · rename_i k hu
      cases hbb : Nat.beq (P.cellsOf t) 1 with
      | false => simp [hbb] at h
      | true =>
        simp [hbb] at h; subst h
        have hag : aggOf P t = false := by simp [aggOf, hu]
        obtain ⟨o1, o2⟩ := hxo hag
        match as, ha, bs, hb with
        | [a], _, [b], _ =>
          have cx : x.cells = #[x] := by cases x <;> first | rfl | simp [Value.oneCell'] at o1
          have cy : y.cells = #[y] := by cases y <;> first | rfl | simp [Value.oneCell'] at o2
          rw [cx] at hx; rw [cy] at hy
          simp [asInts] at hx hy
          subst hx hy
          rw [run_equalIn_int w m t k k a b hu]
          simp
    · rename_i n e hu
      cases hr : tyKs P d e with
      | none => simp [hr] at h
      | some l =>
        simp only [hr] at h
        cases hbb : (Nat.beq l.length (P.cellsOf e) && Nat.beq (P.cellsOf t) (n * P.cellsOf e)) with
        | false => simp [hbb] at h
        | true =>
          simp only [hbb, cond_true, Option.some.injEq] at h
          subst h
          simp only [Bool.and_eq_true] at hbb
          have c1 : l.length = P.cellsOf e := by simpa using hbb.1
          obtain ⟨q, q1, q2, q3⟩ := tyKs_props d e l hr
          have hag : aggOf P t = true := by simp [aggOf, hu]
          obtain ⟨xs, rfl⟩ := hxa hag
          obtain ⟨ys, rfl⟩ := hya hag
          rw [flat_length, c1] at ha hb
          have := run_eqLoop m e l (tyKs_sound d e l hr m (by omega)) c1 q1 q2 (fun h => (q3 h).1) xs ys as bs n hx hy ha hb w n 0 (by omega)
          simp only [Op.equalIn, Sem.run_bind, run_underlying hu, Result.andThen_ok, run_sizeOf (aggK_tyOk q1), Std.Legacy.Range.forIn_eq_forIn_range']
          have hsz : [:n].size = n := by simp [Std.Legacy.Range.size]
          rw [hsz]
          refine (congrArg (fun z => Result.andThen z _) this).trans ?_
          simp only [Result.andThen_ok, Nat.zero_mul, List.drop_zero]
          split <;> simp_all
    · rename_i fs hu
      cases hs : P.stoodInHeld t with
      | true => simp [hs] at h
      | false =>
        simp only [hs, cond_false] at h
        have hag : aggOf P t = true := by simp [aggOf, hu]
        obtain ⟨xs, rfl⟩ := hxa hag
        obtain ⟨ys, rfl⟩ := hya hag
        have hfo : P.fieldsOf t = fs := by simp [Program.fieldsOf, hu]
        rw [run_equalIn_struct w m t xs ys (by rw [hfo]; exact hu) hs, hfo]
        have := run_eqFields m (fun e => tyKs P d e) (fun t ks hh => ⟨tyKs_sound d t ks hh m (by omega), tyKs_props d t ks hh⟩) w fs.toList 0 ks [] as bs xs ys h rfl (by simpa using ha) (by simpa using hb) hx hy
        simpa using this
    · simp at h

def intsOf : List Seg → List Int
  | [] => []
  | .ints _ _ xs :: r => xs ++ intsOf r
  | _ :: r => intsOf r

theorem segKs_sound {ν : Nm} : ∀ {cs : List Seg} {ys : List Value} {ks : List IntKind}, segKs cs = some ks → RC ν cs ys → ys = asInts ks (intsOf cs) ∧ ks.length = (intsOf cs).length
  | [], ys, ks, h, hc => by simp [segKs] at h; cases hc; subst h; exact ⟨rfl, rfl⟩
  | .ints k n xs :: r, ys, ks, h, hc => by
    simp only [segKs] at h
    cases hr : segKs r with
    | none => simp [hr] at h
    | some kr =>
      simp [hr] at h
      subst h
      cases hc with
      | cons _ _ us zs hs hc =>
        obtain ⟨g1, g2⟩ := segKs_sound hr hc
        cases hs with
        | ints _ _ _ _ hn hu =>
          subst hn hu
          refine ⟨?_, by simp [intsOf, g2]⟩
          rw [intsOf, asInts_append _ _ _ _ (by simp), asInts_replicate, ← g1]
  | .fam _ _ :: r, ys, ks, h, hc => by simp [segKs] at h
  | .vs _ :: r, ys, ks, h, hc => by simp [segKs] at h

theorem segsEq_sound {ν : Nm} : ∀ {cs ds : List Seg} {ys zs : List Value} {q : Bool}, segsEq cs ds = some q → RC ν cs ys → RC ν ds zs → q = (intsOf cs == intsOf ds)
  | [], [], ys, zs, q, h, _, _ => by simp [segsEq] at h; simp [intsOf, h]
  | .ints k n xs :: r, .ints k' m us :: r', ys, zs, q, h, hc, hd => by
    cases hc with
    | cons _ _ _ _ h1 hc =>
      cases hd with
      | cons _ _ _ _ h2 hd =>
        cases h1 with
        | ints _ _ _ _ hn _ => cases h2 with
          | ints _ _ _ _ hm _ =>
            have key : ∀ q', Nat.beq n m = true → segsEq r r' = some q' → (xs ++ intsOf r == us ++ intsOf r') = ((xs == us) && q') := by
              intro q' hb hr
              have hnm : n = m := by simpa using hb
              rw [beq_cons_append _ _ _ _ (by omega), ← segsEq_sound hr hc hd]
            cases r with
            | nil => cases r' with
              | nil =>
                simp only [segsEq] at h
                cases hb : Nat.beq n m with
                | false => simp [hb] at h
                | true => simp [hb] at h; subst h; simp [intsOf]
              | cons => simp only [segsEq] at h; cases hb : Nat.beq n m <;> simp [hb] at h
            | cons s r =>
              have e : segsEq (.ints k n xs :: s :: r) (.ints k' m us :: r') = bif Nat.beq n m then (segsEq (s :: r) r').map (fun q => (xs == us) && q) else none := by
                cases r' <;> rfl
              rw [e] at h
              cases hb : Nat.beq n m with
              | false => simp [hb] at h
              | true =>
                simp only [hb, cond_true] at h
                cases hr : segsEq (s :: r) r' with
                | none => simp [hr] at h
                | some q' => simp [hr] at h; subst h; exact (key q' hb hr).symm
  | [], .ints _ _ _ :: _, _, _, q, h, _, _ => by simp [segsEq] at h
  | [], .fam _ _ :: _, _, _, q, h, _, _ => by simp [segsEq] at h
  | [], .vs _ :: _, _, _, q, h, _, _ => by simp [segsEq] at h
  | .ints _ _ _ :: r, [], _, _, q, h, _, _ => by cases r <;> simp [segsEq] at h
  | .ints _ _ _ :: r, .fam _ _ :: _, _, _, q, h, _, _ => by cases r <;> simp [segsEq] at h
  | .ints _ _ _ :: r, .vs _ :: _, _, _, q, h, _, _ => by cases r <;> simp [segsEq] at h
  | .fam _ _ :: _, _, _, _, q, h, _, _ => by simp [segsEq] at h
  | .vs _ :: _, _, _, _, q, h, _, _ => by simp [segsEq] at h

theorem run_equal_ag {t : TypeId} {cs ds : List Seg} {ys zs : Array Value} {q : Bool} (hq : segsEq cs ds = some q) (hf : flatOk P t cs ds = true) {ν : Nm} (hc : RC ν cs ys.toList) (hd : RC ν ds zs.toList) (w : World) :
    (Op.equal t (.agg ys) (.agg zs)).run P w = .ok q w ∧ P.eqGuardType P.depth t = false := by
  unfold flatOk at hf
  cases h1 : tyKs P 8 t with
  | none => simp [h1] at hf
  | some k =>
    cases h2 : segKs cs with
    | none => simp [h1, h2] at hf
    | some k1 =>
      cases h3 : segKs ds with
      | none => simp [h1, h2, h3] at hf
      | some k2 =>
        simp only [h1, h2, h3, Bool.and_eq_true, Bool.not_eq_true'] at hf
        obtain ⟨⟨⟨f1, f2⟩, f3⟩, f4⟩ := hf
        obtain rfl := ksEq_eq f1
        obtain rfl := ksEq_eq f2
        obtain ⟨g1, g2⟩ := segKs_sound h2 hc
        obtain ⟨g3, g4⟩ := segKs_sound h3 hd
        refine ⟨?_, f4⟩
        rw [segsEq_sound hq hc hd]
        exact tyKs_sound 8 t k h1 10000 (by omega) (intsOf cs) (intsOf ds) w g2.symm g4.symm (.agg ys) (.agg zs) g1 g3 (fun _ => ⟨_, rfl⟩) (fun _ => ⟨_, rfl⟩) (fun h => by rw [f3] at h; simp at h)

end Go.Am
