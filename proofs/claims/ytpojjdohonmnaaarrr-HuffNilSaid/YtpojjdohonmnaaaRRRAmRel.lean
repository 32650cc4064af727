/-
  A part of an abstract machine that runs a function's text over symbolic values, and of the proof that the machine is sound over the model. No condition.
-/
import Derived.Test.YtpojjdohonmnaaaRRRAmSeg
import Derived.Below
namespace Go.Am
open Go Go.RowKit

/-- what is known of a name: nothing, no block (a list that is nil), a block and its size -/
abbrev Nm := Nat → Option (Option (Nat × Nat))

mutual
inductive RV (ν : Nm) : V → Value → Prop
  | dk (y : Value) : RV ν .dk y
  | b (t : Bool) : RV ν (.b t) (.bool t)
  | i (k : IntKind) (n : Int) : RV ν (.i k n) (.int k n)
  | s (s : ByteArray) (l : List Int) : l = s.data.toList.map (fun b => (b.toNat : Int)) → RV ν (.s l) (.string s)
  | pn : RV ν (.p none) (.pointer none)
  | p (a : A) (b sz : Nat) : ν a.n = some (some (b, sz)) → RV ν (.p (some a)) (.pointer (some ⟨b, a.d + a.o, none⟩))
  | sln (len cap : Nat) : RV ν (.sl none len cap) (.slice none len cap)
  | sl (a : A) (b sz off len cap : Nat) : ν a.n = some (some (b, sz)) → len ≤ cap → (off = a.d + a.o ∨ cap = 0) → RV ν (.sl (some a) len cap) (.slice (some ⟨b, off, none⟩) len cap)
  | sq (a : A) (b sz off w len cap : Nat) : ν a.n = some (some (b, sz)) → len ≤ cap → (off = a.d + a.o ∨ cap = 0) → (cap = 0 ∨ off + cap * w ≤ sz) →
      RV ν (.sq a w len) (.slice (some ⟨b, off, none⟩) len cap)
  | sqn (a : A) (w len : Nat) : ν a.n = some none → len = 0 → RV ν (.sq a w len) (.slice none 0 0)
  | fn (g : Nat) (l l' : List V) (ys ys' : Array Value) : RL ν l ys.toList → RL ν l' ys'.toList → RV ν (.fn g l l') (.func (.func g) ys ys')
  | nf : RV ν .nf .nilFunc
  | ag (cs : List Seg) (ys : Array Value) : RC ν cs ys.toList → RV ν (.ag cs) (.agg ys)
  | tu (l : List V) (ys : Array Value) : RL ν l ys.toList → RV ν (.tu l) (.tuple ys)
  | ni : RV ν .ni .nilIface
  | ifc (t : Nat) (v : V) (y : Value) : RV ν v y → RV ν (.ifc t v) (.iface t y)
  | mpn : RV ν (.mp none) (.map none)
inductive RL (ν : Nm) : List V → List Value → Prop
  | nil : RL ν [] []
  | cons (v : V) (y : Value) (l : List V) (ys : List Value) : RV ν v y → RL ν l ys → RL ν (v :: l) (y :: ys)
inductive RS (ν : Nm) : Seg → List Value → Prop
  | ints (k : IntKind) (n : Nat) (xs : List Int) (ys : List Value) : xs.length = n → ys = xs.map (Value.int k) → RS ν (.ints k n xs) ys
  | fam (n : Nat) (g : Nat → V) (ys : List Value) : ys.length = n → (∀ i y, ys[i]? = some y → RV ν (g i) y) → (∀ y ∈ ys, y.oneCell' = true) → RS ν (.fam n g) ys
  | vs (l : List V) (ys : List Value) : RL ν l ys → (∀ y ∈ ys, y.oneCell' = true) → RS ν (.vs l) ys
inductive RC (ν : Nm) : List Seg → List Value → Prop
  | nil : RC ν [] []
  | cons (s : Seg) (cs : List Seg) (ys zs : List Value) : RS ν s ys → RC ν cs zs → RC ν (s :: cs) (ys ++ zs)
end

theorem RL.length {ν : Nm} : ∀ {l : List V} {ys : List Value}, RL ν l ys → l.length = ys.length
  | [], _, h => by cases h; rfl
  | _ :: _, _, h => by cases h with | cons _ _ _ _ _ h => simp [h.length]

theorem RL.get {ν : Nm} : ∀ {l : List V} {ys : List Value}, RL ν l ys → ∀ (i : Nat) (v : V), l[i]? = some v → ∃ y, ys[i]? = some y ∧ RV ν v y
  | [], _, _, i, v, hv => by simp at hv
  | a :: l, _, h, i, v, hv => by
    cases h with
    | cons _ y _ ys ha h =>
      cases i with
      | zero => simp at hv; subst hv; exact ⟨y, rfl, ha⟩
      | succ i => simp at hv; simpa using h.get i v hv

theorem RL.set {ν : Nm} : ∀ {l : List V} {ys : List Value}, RL ν l ys → ∀ (i : Nat) {v : V} {y : Value}, RV ν v y → RL ν (l.set i v) (ys.set i y)
  | [], _, h, i, v, y, hv => by cases h; exact .nil
  | a :: l, _, h, i, v, y, hv => by
    cases h with
    | cons _ y' _ ys ha h =>
      cases i with
      | zero => exact .cons _ _ _ _ hv h
      | succ i => exact .cons _ _ _ _ ha (h.set i hv)

theorem RL.drop {ν : Nm} : ∀ {l : List V} {ys : List Value} (n : Nat), RL ν l ys → RL ν (l.drop n) (ys.drop n)
  | l, ys, 0, h => by simpa using h
  | [], _, n + 1, h => by cases h; exact .nil
  | a :: l, _, n + 1, h => by cases h with | cons _ _ _ ys _ h => simpa using RL.drop n h

theorem RL.take {ν : Nm} : ∀ {l : List V} {ys : List Value} (n : Nat), RL ν l ys → RL ν (l.take n) (ys.take n)
  | l, ys, 0, h => by simpa using RL.nil
  | [], _, n + 1, h => by cases h; exact .nil
  | a :: l, _, n + 1, h => by cases h with | cons _ _ _ ys ha h => exact .cons _ _ _ _ ha (RL.take n h)

theorem RL.append {ν : Nm} : ∀ {l l' : List V} {ys ys' : List Value}, RL ν l ys → RL ν l' ys' → RL ν (l ++ l') (ys ++ ys')
  | [], _, _, _, h, h' => by cases h; exact h'
  | a :: l, _, _, _, h, h' => by cases h with | cons _ _ _ ys ha h => exact .cons _ _ _ _ ha (h.append h')

theorem RL.of_map {ν : Nm} {α : Type _} (g : α → V) (k : α → Value) (hg : ∀ x, RV ν (g x) (k x)) : ∀ l : List α, RL ν (l.map g) (l.map k)
  | [] => .nil
  | a :: l => .cons _ _ _ _ (hg a) (RL.of_map g k hg l)

theorem RL.replicate {ν : Nm} {v : V} {y : Value} (h : RV ν v y) : ∀ n : Nat, RL ν (List.replicate n v) (List.replicate n y)
  | 0 => .nil
  | n + 1 => .cons _ _ _ _ h (RL.replicate h n)

theorem RS.length {ν : Nm} {s : Seg} {ys : List Value} (h : RS ν s ys) : ys.length = s.len := by
  cases h with
  | ints k n xs _ hn hy => subst hy; simp [Seg.len, hn]
  | fam n g _ hn _ _ => simp [Seg.len, hn]
  | vs l _ h _ => simp [Seg.len, h.length]

theorem RS.one {ν : Nm} {s : Seg} {ys : List Value} (h : RS ν s ys) : ∀ y ∈ ys, y.oneCell' = true := by
  cases h with
  | ints k n xs _ hn hy => subst hy; intro y hy; obtain ⟨z, _, rfl⟩ := List.mem_map.1 hy; rfl
  | fam n g _ hn _ h => exact h
  | vs l _ h h' => exact h'

theorem RC.one {ν : Nm} : ∀ {cs : List Seg} {ys : List Value}, RC ν cs ys → ∀ y ∈ ys, y.oneCell' = true
  | [], _, h => by cases h; simp
  | _ :: _, _, h => by
    cases h with
    | cons _ _ ys zs hs h =>
      intro y hy
      rcases List.mem_append.1 hy with hy | hy
      · exact hs.one y hy
      · exact h.one y hy

theorem rdS_sound {ν : Nm} {s : Seg} {ys : List Value} (h : RS ν s ys) (j : Nat) (hk : (rdS s j).1 = true) :
    ∃ y, ys[j]? = some y ∧ RV ν (rdS s j).2 y := by
  cases h with
  | ints k n xs _ hn hy =>
    subst hy hn
    simp only [rdS] at hk ⊢
    have hj : j < xs.length := Nat.le_of_ble_eq_true hk
    refine ⟨.int k xs[j], by simp [List.getElem?_map, List.getElem?_eq_getElem hj], ?_⟩
    rw [List.getD_eq_getElem?_getD, List.getElem?_eq_getElem hj]
    exact .i _ _
  | fam n g _ hn hg _ =>
    simp only [rdS] at hk ⊢
    have hj : j < ys.length := by rw [hn]; exact Nat.le_of_ble_eq_true hk
    exact ⟨ys[j], List.getElem?_eq_getElem hj, hg j _ (List.getElem?_eq_getElem hj)⟩
  | vs l _ h _ =>
    simp only [rdS] at hk ⊢
    cases hl : l[j]? with
    | none => simp [hl] at hk
    | some v => simpa [hl] using h.get j v hl

theorem rd1_sound {ν : Nm} : ∀ {cs : List Seg} {ys : List Value} (o d : Nat), RC ν cs ys → (rd1 cs o d).1 = true →
    ∃ y, ys[d + o]? = some y ∧ RV ν (rd1 cs o d).2 y
  | [], _, o, d, h, hk => by simp [rd1] at hk
  | [s], _, o, d, h, hk => by
    cases h with
    | cons _ _ ys zs hs h =>
      cases h
      simp only [rd1] at hk ⊢
      simpa using rdS_sound hs (d + o) hk
  | s :: s' :: r, _, o, d, h, hk => by
    cases h with
    | cons _ _ ys zs hs h =>
      simp only [rd1] at hk ⊢
      cases hb : Nat.ble s.len o with
      | true =>
        simp only [hb, cond_true] at hk ⊢
        obtain ⟨y, hy, hv⟩ := rd1_sound (o - s.len) d h hk
        refine ⟨y, ?_, hv⟩
        have hl := hs.length
        have hle : s.len ≤ o := Nat.le_of_ble_eq_true hb
        rw [List.getElem?_append_right (by omega), ← hy]
        congr 1; omega
      | false =>
        simp only [hb, cond_false] at hk ⊢
        obtain ⟨y, hy, hv⟩ := rdS_sound hs (d + o) hk
        exact ⟨y, by rw [List.getElem?_append_left (by have := List.getElem?_eq_some_iff.1 hy; exact this.1)]; exact hy, hv⟩

theorem sub_eq {n d len : Nat} {xs : List Int} (hn : xs.length = n) : sub n d len xs = (xs.drop d).take len := by
  unfold sub
  cases h : (Nat.beq d 0 && Nat.beq len n) with
  | false => rfl
  | true =>
    simp at h
    obtain ⟨rfl, rfl⟩ := h
    simp [← hn]

theorem splice_eq {n d m : Nat} {ys xs : List Int} (hn : xs.length = n) (hm : ys.length = m) : splice n d m ys xs = xs.take d ++ ys ++ xs.drop (d + m) := by
  unfold splice
  cases h : (Nat.beq d 0 && Nat.beq m n) with
  | false => rfl
  | true =>
    simp at h
    obtain ⟨rfl, rfl⟩ := h
    simp [← hn]

theorem RS.ints_sub {ν : Nm} {k : IntKind} {n d len : Nat} {xs : List Int} {ys : List Value} (h : RS ν (.ints k n xs) ys) (hl : d + len ≤ n) :
    RS ν (.ints k len (sub n d len xs)) ((ys.drop d).take len) := by
  cases h with
  | ints _ _ _ _ hn hy =>
    subst hy
    rw [sub_eq hn]
    exact .ints _ _ _ _ (by simp; omega) (by simp [List.map_take, List.map_drop])

theorem mem_drop_take {α : Type _} {l : List α} {d n : Nat} {y : α} (h : y ∈ (l.drop d).take n) : y ∈ l :=
  List.mem_of_mem_drop (List.mem_of_mem_take h)

theorem RS.vs_sub {ν : Nm} {d len : Nat} {l : List V} {ys : List Value} (h : RS ν (.vs l) ys) :
    RS ν (.vs ((l.drop d).take len)) ((ys.drop d).take len) := by
  cases h with
  | vs _ _ h ho => exact .vs _ _ ((h.drop d).take len) (fun y hy => ho y (mem_drop_take hy))

theorem RS.fam_sub {ν : Nm} {d len n : Nat} {g : Nat → V} {ys : List Value} (h : RS ν (.fam n g) ys) (hl : d + len ≤ n) :
    RS ν (.fam len (fun j => g (j + d))) ((ys.drop d).take len) := by
  cases h with
  | fam _ _ _ hn hg ho =>
    refine .fam _ _ _ (by simp; omega) (fun i y hy => ?_) (fun y hy => ho y (mem_drop_take hy))
    rw [List.getElem?_take] at hy
    split at hy
    · rw [List.getElem?_drop, Nat.add_comm] at hy; exact hg _ _ hy
    · simp at hy

theorem RC.single {ν : Nm} {s : Seg} {ys : List Value} (h : RS ν s ys) : RC ν [s] ys := by
  have := RC.cons s [] ys [] h .nil
  simpa using this

theorem RC.of_single {ν : Nm} {s : Seg} {ys : List Value} (h : RC ν [s] ys) : RS ν s ys := by
  cases h with
  | cons _ _ ys zs hs h => cases h; simpa using hs

theorem drop_take_append {α : Type _} (l r : List α) (d n : Nat) : ((l ++ r).drop d).take n = (l.drop d).take n ++ (r.drop (d - l.length)).take (n - (l.length - d)) := by
  rw [List.drop_append, List.take_append, List.length_drop]

theorem rdR_two (s s' : Seg) (r : List Seg) (o d len : Nat) : rdR (s :: s' :: r) o d len = bif Nat.ble s.len o then rdR (s' :: r) (o - s.len) d len else
      match s with
      | .ints k n xs => bif Nat.ble (d + o + len) n then (true, [.ints k len (sub n (d + o) len xs)])
        else (Nat.beq (d + o) 0 && (rdR (s' :: r) 0 0 (len - n)).1, s :: (rdR (s' :: r) 0 0 (len - n)).2)
      | .vs l => bif Nat.ble (d + o + len) l.length then (true, [.vs ((l.drop (d + o)).take len)])
        else (Nat.ble (d + o) l.length && (rdR (s' :: r) 0 0 (d + o + len - l.length)).1, .vs (l.drop (d + o)) :: (rdR (s' :: r) 0 0 (d + o + len - l.length)).2)
      | .fam _ _ => (false, []) := rfl

theorem rdR_sound {ν : Nm} : ∀ {cs : List Seg} {ys : List Value} (o d len : Nat), RC ν cs ys → (rdR cs o d len).1 = true →
    (len = 0 ∨ d + o + len ≤ ys.length) ∧ RC ν (rdR cs o d len).2 ((ys.drop (d + o)).take len)
  | [], _, o, d, len, h, hk => by
    cases h
    have : len = 0 := by simpa [rdR] using hk
    subst this
    exact ⟨.inl rfl, by simpa [rdR] using RC.nil⟩
  | [s], _, o, d, len, h, hk => by
    have hs := h.of_single
    have hl := hs.length
    cases s with
    | ints k n xs =>
      have hle : d + o + len ≤ n := by simpa [rdR] using hk
      exact ⟨.inr (by rw [hl]; exact hle), RC.single (hs.ints_sub hle)⟩
    | vs l =>
      have hle : d + o + len ≤ l.length := by simpa [rdR] using hk
      exact ⟨.inr (by rw [hl]; exact hle), RC.single hs.vs_sub⟩
    | fam n g =>
      have hle : d + o + len ≤ n := by simpa [rdR] using hk
      exact ⟨.inr (by rw [hl]; exact hle), RC.single (hs.fam_sub hle)⟩
  | s :: s' :: r, _, o, d, len, h, hk => by
    cases h with
    | cons _ _ ys zs hs h =>
      have hl := hs.length
      rw [rdR_two] at hk ⊢
      cases hb : Nat.ble s.len o with
      | true =>
        have hle : s.len ≤ o := Nat.le_of_ble_eq_true hb
        simp only [hb, cond_true] at hk ⊢
        obtain ⟨h1, h2⟩ := rdR_sound (o - s.len) d len h hk
        refine ⟨h1.imp id (fun h1 => by simp; omega), ?_⟩
        rw [drop_take_append, List.drop_eq_nil_of_le (by omega)]
        have e1 : d + o - ys.length = d + (o - s.len) := by omega
        have e2 : len - (ys.length - (d + o)) = len := by omega
        rw [e1, e2]
        simpa using h2
      | false =>
        simp only [hb, cond_false] at hk ⊢
        cases s with
        | ints k n xs =>
          simp only [Seg.len] at hl
          dsimp only at hk ⊢
          cases hc : Nat.ble (d + o + len) n with
          | true =>
            have hle := Nat.le_of_ble_eq_true hc
            simp only [hc, cond_true] at hk ⊢
            refine ⟨.inr (by simp; omega), ?_⟩
            rw [drop_take_append]
            have e2 : len - (ys.length - (d + o)) = 0 := by omega
            rw [e2]
            simpa using RC.single (hs.ints_sub hle)
          | false =>
            have hgt : n < d + o + len := by
              have := Nat.ble_eq (x := d + o + len) (y := n); rw [hc] at this; simp at this; omega
            simp only [hc, cond_false, Bool.and_eq_true] at hk ⊢
            obtain ⟨hz, hk⟩ := hk
            have hz : d + o = 0 := by simpa using hz
            obtain ⟨h1, h2⟩ := rdR_sound 0 0 (len - n) h hk
            refine ⟨.inr (by simp; omega), ?_⟩
            rw [drop_take_append, hz]
            have e1 : (ys.drop 0).take len = ys := by rw [List.drop_zero, List.take_of_length_le (by omega)]
            have e2 : 0 - ys.length = 0 := by omega
            have e3 : len - (ys.length - 0) = len - n := by omega
            rw [e1, e2, e3]
            exact .cons _ _ _ _ hs (by simpa using h2)
        | vs l =>
          simp only [Seg.len] at hl
          dsimp only at hk ⊢
          cases hc : Nat.ble (d + o + len) l.length with
          | true =>
            have hle := Nat.le_of_ble_eq_true hc
            simp only [hc, cond_true] at hk ⊢
            refine ⟨.inr (by simp; omega), ?_⟩
            rw [drop_take_append]
            have e2 : len - (ys.length - (d + o)) = 0 := by omega
            rw [e2]
            simpa using RC.single (hs.vs_sub (d := d + o) (len := len))
          | false =>
            have hgt : l.length < d + o + len := by
              have := Nat.ble_eq (x := d + o + len) (y := l.length); rw [hc] at this; simp at this; omega
            simp only [hc, cond_false, Bool.and_eq_true] at hk ⊢
            obtain ⟨hz, hk⟩ := hk
            have hz : d + o ≤ l.length := Nat.le_of_ble_eq_true hz
            obtain ⟨h1, h2⟩ := rdR_sound 0 0 (d + o + len - l.length) h hk
            refine ⟨.inr (by simp; omega), ?_⟩
            rw [drop_take_append]
            have e1 : (ys.drop (d + o)).take len = ys.drop (d + o) := by rw [List.take_of_length_le (by simp; omega)]
            have e2 : d + o - ys.length = 0 := by omega
            have e3 : len - (ys.length - (d + o)) = d + o + len - l.length := by omega
            rw [e1, e2, e3]
            refine .cons _ _ _ _ ?_ (by simpa using h2)
            cases hs with
            | vs _ _ hs ho => exact .vs _ _ (hs.drop _) (fun y hy => ho y (List.mem_of_mem_drop hy))
        | fam n g => simp at hk

theorem kEq_eq {a b : IntKind} (h : kEq a b = true) : a = b := by cases a <;> cases b <;> first | rfl | simp [kEq] at h

theorem RV.one {ν : Nm} {v : V} {y : Value} (h : RV ν v y) (ho : oneV v = true) : y.oneCell' = true := by
  cases h <;> first | rfl | simp [oneV] at ho

theorem wrS_sound {ν : Nm} {s : Seg} {ys : List Value} (h : RS ν s ys) (j : Nat) {v : V} {y : Value} (hv : RV ν v y) (hk : (wrS s j v).1 = true) :
    j < ys.length ∧ RS ν (wrS s j v).2 (ys.set j y) ∧ y.oneCell' = true := by
  have hl := h.length
  cases h with
  | ints k n xs _ hn hy =>
    subst hy hn
    cases v <;> simp only [wrS, Bool.and_eq_true] at hk ⊢ <;> try (simp at hk; done)
    rename_i k' z
    cases hv
    obtain ⟨hk1, hk2⟩ := hk
    obtain rfl := kEq_eq hk1
    have hj : j < xs.length := Nat.le_of_ble_eq_true hk2
    exact ⟨by simpa using hj, .ints _ _ _ _ (by simp) (by simp [List.map_set]), rfl⟩
  | fam n g _ hn hg ho =>
    simp only [wrS, Bool.and_eq_true] at hk ⊢
    obtain ⟨hk1, hk2⟩ := hk
    have hj : j < n := Nat.le_of_ble_eq_true hk1
    have h1 := hv.one hk2
    refine ⟨by omega, .fam _ _ _ (by simpa using hn) (fun i u hu => ?_) (fun u hu => ?_), h1⟩
    · rw [List.getElem?_set] at hu
      cases hb : Nat.beq i j with
      | true =>
        have hij : i = j := Nat.eq_of_beq_eq_true hb
        subst hij
        simp at hu
        simp only [cond_true]
        rw [← hu.2]; exact hv
      | false =>
        have hij : ¬ j = i := by intro e; subst e; simp at hb
        rw [if_neg hij] at hu
        simp only [cond_false]
        exact hg _ _ hu
    · rcases List.mem_or_eq_of_mem_set hu with hu | rfl
      · exact ho _ hu
      · exact h1
  | vs l _ h ho =>
    simp only [wrS, Bool.and_eq_true] at hk ⊢
    obtain ⟨hk1, hk2⟩ := hk
    have hj : j < l.length := Nat.le_of_ble_eq_true hk1
    have h1 := hv.one hk2
    refine ⟨by rw [← h.length]; exact hj, .vs _ _ (h.set j hv) (fun u hu => ?_), h1⟩
    rcases List.mem_or_eq_of_mem_set hu with hu | rfl
    · exact ho _ hu
    · exact h1

theorem wr1_two (s s' : Seg) (r : List Seg) (o d : Nat) (v : V) : wr1 (s :: s' :: r) o d v =
    bif Nat.ble s.len o then ((wr1 (s' :: r) (o - s.len) d v).1, s :: (wr1 (s' :: r) (o - s.len) d v).2) else ((wrS s (d + o) v).1, (wrS s (d + o) v).2 :: s' :: r) := rfl

theorem wr1_sound {ν : Nm} {v : V} {y : Value} (hv : RV ν v y) : ∀ {cs : List Seg} {ys : List Value} (o d : Nat), RC ν cs ys → (wr1 cs o d v).1 = true →
    d + o < ys.length ∧ RC ν (wr1 cs o d v).2 (ys.set (d + o) y) ∧ y.oneCell' = true
  | [], _, o, d, h, hk => by simp [wr1] at hk
  | [s], _, o, d, h, hk => by
    obtain ⟨h1, h2, h3⟩ := wrS_sound h.of_single (d + o) hv hk
    exact ⟨h1, RC.single h2, h3⟩
  | s :: s' :: r, _, o, d, h, hk => by
    cases h with
    | cons _ _ ys zs hs h =>
      have hl := hs.length
      rw [wr1_two] at hk ⊢
      cases hb : Nat.ble s.len o with
      | true =>
        simp only [hb, cond_true] at hk ⊢
        have hle : s.len ≤ o := Nat.le_of_ble_eq_true hb
        obtain ⟨h1, h2, h3⟩ := wr1_sound hv (o - s.len) d h hk
        refine ⟨by simp; omega, ?_, h3⟩
        rw [List.set_append_right _ _ (by omega)]
        have e : d + o - ys.length = d + (o - s.len) := by omega
        rw [e]
        exact .cons _ _ _ _ hs h2
      | false =>
        simp only [hb, cond_false] at hk ⊢
        obtain ⟨h1, h2, h3⟩ := wrS_sound hs (d + o) hv hk
        refine ⟨by simp; omega, ?_, h3⟩
        rw [List.set_append_left _ _ h1]
        exact .cons _ _ _ _ h2 h

theorem RC.length {ν : Nm} : ∀ {cs : List Seg} {ys : List Value}, RC ν cs ys → ys.length = lenC cs
  | [], _, h => by cases h; rfl
  | _ :: _, _, h => by cases h with | cons _ _ ys zs hs h => simp [lenC, hs.length, h.length]

theorem RS.splice_ints {ν : Nm} {k : IntKind} {n d m : Nat} {xs xs' : List Int} {ys zs : List Value} (h : RS ν (.ints k n xs) ys) (h' : RS ν (.ints k m xs') zs) (hl : d + m ≤ n) :
    RS ν (.ints k n (splice n d m xs' xs)) (ys.take d ++ zs ++ ys.drop (d + m)) := by
  cases h with
  | ints _ _ _ _ hn hy => cases h' with
    | ints _ _ _ _ hn' hy' =>
      subst hy hy'
      rw [splice_eq hn hn']
      exact .ints _ _ _ _ (by simp; omega) (by simp [List.map_take, List.map_drop])

theorem RS.splice_vs {ν : Nm} {d m : Nat} {l l' : List V} {ys zs : List Value} (h : RS ν (.vs l) ys) (h' : RS ν (.vs l') zs) :
    RS ν (.vs (l.take d ++ l' ++ l.drop (d + m))) (ys.take d ++ zs ++ ys.drop (d + m)) := by
  cases h with
  | vs _ _ h ho => cases h' with
    | vs _ _ h' ho' =>
      refine .vs _ _ (((h.take d).append h').append (h.drop _)) (fun y hy => ?_)
      rcases List.mem_append.1 hy with hy | hy
      · rcases List.mem_append.1 hy with hy | hy
        · exact ho _ (List.mem_of_mem_take hy)
        · exact ho' _ hy
      · exact ho _ (List.mem_of_mem_drop hy)

theorem splice_append_left {α : Type _} (l r z : List α) (d m : Nat) (h : d + m ≤ l.length) :
    (l ++ r).take d ++ z ++ (l ++ r).drop (d + m) = (l.take d ++ z ++ l.drop (d + m)) ++ r := by
  rw [List.take_append_of_le_length (by omega), List.drop_append_of_le_length (by omega)]; simp

theorem wrR_cons (s : Seg) (r : List Seg) (o d : Nat) (nw : Seg) (ns : List Seg) : wrR (s :: r) o d (nw :: ns) =
    bif (match r with | [] => false | _ => Nat.ble s.len o) then ((wrR r (o - s.len) d (nw :: ns)).1, s :: (wrR r (o - s.len) d (nw :: ns)).2) else
    match s, nw with
    | .ints k n xs, .ints k' m ys => match ns with
      | [] => (kEq k k' && Nat.ble (d + o + m) n, .ints k n (splice n (d + o) m ys xs) :: r)
      | _ => (kEq k k' && Nat.beq (d + o) 0 && Nat.beq m n && (wrR r 0 0 ns).1, .ints k n ys :: (wrR r 0 0 ns).2)
    | .vs l, .vs l' => match ns with
      | [] => (Nat.ble (d + o + l'.length) l.length, .vs (l.take (d + o) ++ l' ++ l.drop (d + o + l'.length)) :: r)
      | _ => (Nat.beq (d + o) 0 && Nat.beq l'.length l.length && (wrR r 0 0 ns).1, .vs l' :: (wrR r 0 0 ns).2)
    | .fam n _, .fam m g' => match ns with
      | [] => (Nat.beq (d + o) 0 && Nat.beq m n, .fam n g' :: r)
      | _ => (false, [])
    | _, _ => (false, []) := rfl

theorem wrR_sound {ν : Nm} : ∀ {cs ns : List Seg} {ys zs : List Value} (o d : Nat), RC ν cs ys → RC ν ns zs → (wrR cs o d ns).1 = true →
    (zs = [] ∨ d + o + zs.length ≤ ys.length) ∧ RC ν (wrR cs o d ns).2 (ys.take (d + o) ++ zs ++ ys.drop (d + o + zs.length))
  | cs, [], ys, zs, o, d, h, h', hk => by
    cases h'
    have e : wrR cs o d [] = (true, cs) := by cases cs <;> rfl
    rw [e]
    refine ⟨.inl rfl, ?_⟩
    simpa using h
  | [], _ :: _, _, _, o, d, h, h', hk => by simp [wrR] at hk
  | s :: r, nw :: ns, _, _, o, d, h, h', hk => by
    cases h with
    | cons _ _ ys zs hs h =>
      have hl := hs.length
      rw [wrR_cons] at hk ⊢
      cases hb : (match r with | [] => false | _ => Nat.ble s.len o) with
      | true =>
        simp only [hb, cond_true] at hk ⊢
        have hle : s.len ≤ o := by cases r <;> simp at hb; exact hb
        obtain ⟨h1, h2⟩ := wrR_sound (o - s.len) d h h' hk
        refine ⟨h1.imp id (fun h1 => by simp; omega), ?_⟩
        rw [List.take_append, List.drop_append, List.take_of_length_le (by omega), List.drop_eq_nil_of_le (by omega)]
        have e : d + o - ys.length = d + (o - s.len) := by omega
        have e' : ∀ q, d + o + q - ys.length = d + (o - s.len) + q := by intro q; omega
        rw [e, e']
        simpa [List.append_assoc] using RC.cons _ _ _ _ hs h2
      | false =>
        simp only [hb, cond_false] at hk ⊢
        cases h' with
        | cons _ _ us vs hn h' =>
          have hln := hn.length
          cases s with
          | ints k n xs =>
            cases nw with
            | ints k' m xs' =>
              dsimp only [Seg.len] at hk hl hln ⊢
              cases ns with
              | nil =>
                cases h'
                simp only [Bool.and_eq_true] at hk ⊢
                obtain ⟨hk1, hk2⟩ := hk
                obtain rfl := kEq_eq hk1
                have hle := Nat.le_of_ble_eq_true hk2
                refine ⟨.inr (by simp; omega), ?_⟩
                rw [List.append_nil, hln, splice_append_left _ _ _ _ _ (by omega)]
                exact .cons _ _ _ _ (hs.splice_ints hn hle) h
              | cons n2 ns =>
                simp only [Bool.and_eq_true] at hk ⊢
                obtain ⟨⟨⟨hk1, hk2⟩, hk3⟩, hk4⟩ := hk
                obtain rfl := kEq_eq hk1
                have hk2 : d + o = 0 := by simpa using hk2
                have hk3 : m = n := by simpa using hk3
                subst hk3
                obtain ⟨h1, h2⟩ := wrR_sound 0 0 h h' hk4
                refine ⟨.inr (by rcases h1 with rfl | h1 <;> simp at * <;> omega), ?_⟩
                rw [hk2, List.drop_append, List.drop_eq_nil_of_le (by simp; omega)]
                have e : 0 + (us ++ vs).length - ys.length = vs.length := by simp; omega
                rw [e]
                simpa [List.append_assoc] using RC.cons _ _ _ _ hn h2
            | _ => simp at hk
          | vs l =>
            cases nw with
            | vs l' =>
              dsimp only [Seg.len] at hk hl hln ⊢
              cases ns with
              | nil =>
                cases h'
                dsimp only at hk ⊢
                have hle := Nat.le_of_ble_eq_true hk
                refine ⟨.inr (by simp; omega), ?_⟩
                rw [List.append_nil, hln, splice_append_left _ _ _ _ _ (by omega)]
                exact .cons _ _ _ _ (hs.splice_vs hn) h
              | cons n2 ns =>
                simp only [Bool.and_eq_true] at hk ⊢
                obtain ⟨⟨hk2, hk3⟩, hk4⟩ := hk
                have hk2 : d + o = 0 := by simpa using hk2
                have hk3 : l'.length = l.length := by simpa using hk3
                obtain ⟨h1, h2⟩ := wrR_sound 0 0 h h' hk4
                refine ⟨.inr (by rcases h1 with rfl | h1 <;> simp at * <;> omega), ?_⟩
                rw [hk2, List.drop_append, List.drop_eq_nil_of_le (by simp; omega)]
                have e : 0 + (us ++ vs).length - ys.length = vs.length := by simp; omega
                rw [e]
                simpa [List.append_assoc] using RC.cons _ _ _ _ hn h2
            | _ => simp at hk
          | fam n g =>
            cases nw with
            | fam m g' =>
              dsimp only [Seg.len] at hk hl hln ⊢
              cases ns with
              | nil =>
                cases h'
                simp only [Bool.and_eq_true] at hk ⊢
                obtain ⟨hk2, hk3⟩ := hk
                have hk2 : d + o = 0 := by simpa using hk2
                have hk3 : m = n := by simpa using hk3
                subst hk3
                refine ⟨.inr (by simp; omega), ?_⟩
                rw [List.append_nil, hln, splice_append_left _ _ _ _ _ (by omega), hk2, List.drop_eq_nil_of_le (by omega)]
                simpa using RC.cons _ _ _ _ hn h
              | cons n2 ns => simp at hk
            | _ => simp at hk

end Go.Am
