/-
  A part of an abstract machine that runs a function's text over symbolic values, and of the proof that the machine is sound over the model. No condition.
-/
import Derived.Test.YtpojjdohonmnaaaRRRAmOps7
namespace Go.Am
open Go Go.RowKit

variable {P : Program} {nx : Nat} {r : Nat → Prop} {ν : Nm} {h : Hp} {w : World} {ρ : Operand → V} {σ : Operand → Value} {o : Oper}

theorem op_index (hρ : ∀ x, RVn nx ν (ρ x) (σ x)) (hh : RH nx ν h w) {t : TypeId} {x ix : Operand} (ho : o.op = .index t x ix)
    (hok : (ev1 P ρ h nx (.index t x ix)).ok = true) : Out P r nx ν h w (execOp σ o) (ev1 P ρ h nx (.index t x ix)) := by
  have hx := hρ x
  have hix := hρ ix
  simp only [execOp, ho]
  simp only [ev1] at hok ⊢
  generalize ρ ix = vi at *
  cases vi <;> try (simp [bad] at hok; done)
  rename_i k j
  rw [hix.of_i]
  generalize ρ x = v at *
  have hx0 := hx.here
  generalize σ x = y at *
  cases hu : P.underlying t with
  | none => simp [hu, bad] at hok
  | some d =>
    cases d <;> simp only [hu] at hok ⊢ <;> (try (cases hx0 <;> simp [bad] at hok; done))
    · cases hx0 <;> try (simp [bad] at hok; done)
      rename_i s l hl
      simp only [Bool.and_eq_true, decide_eq_true_eq] at hok ⊢
      obtain ⟨k1, k2⟩ := hok
      have k2 : j.toNat + 1 ≤ l.length := Nat.le_of_ble_eq_true k2
      have hlen : l.length = s.size := by rw [hl, List.length_map]; rfl
      have hlt : j.toNat < s.size := by omega
      have hb : s[j.toNat]? = some (s[j.toNat]'hlt) := getElem?_pos s j.toNat hlt
      refine Out.quiet' (y := .int .u8 (s[j.toNat]'hlt).toNat) hh ?_ ?_
      · simp only [Sem.run_bind, Instr.index, asIntOf, Sem.run_pure, Result.andThen_ok, run_underlying hu, if_pos k1, hb]
      · have : l.getD j.toNat 0 = ((s[j.toNat]'hlt).toNat : Int) := by
          rw [List.getD_eq_getElem?_getD, hl, List.getElem?_map]
          have : s.data.toList[j.toNat]? = some (s[j.toNat]'hlt) := by
            rw [Array.getElem?_toList]; exact Array.getElem?_eq_getElem _
          rw [this]; rfl
        rw [this]; exact rvn_i _ _
    · rename_i n e
      cases hx0 <;> try (simp [bad] at hok; done)
      rename_i cs ys hc
      have hcn : RCn nx ν cs ys.toList := fun ν' ha => by have := hx ν' ha; cases this; assumption
      cases hk : aggK P e with
      | none => simp [hk, bad] at hok
      | some q =>
        cases q with
        | true =>
          simp only [hk, Bool.and_eq_true, decide_eq_true_eq] at hok ⊢
          obtain ⟨⟨k1, k2⟩, k3⟩ := hok
          have k2 : j.toNat + 1 ≤ n := Nat.le_of_ble_eq_true k2
          refine Out.quiet' (y := .agg (ys.extract (j.toNat * P.cellsOf e) (j.toNat * P.cellsOf e + P.cellsOf e))) hh ?_ (fun ν' ha => .ag _ _ ?_)
          · simp only [Sem.run_bind, Instr.index, asIntOf, run_underlying hu, Result.andThen_ok, Sem.run_pure]
            rw [if_pos (by omega)]
            simp only [Sem.run_bind, part, run_isAgg hk, if_true, run_sizeOf (aggK_tyOk hk), Result.andThen_ok, Sem.run_pure]
          · have := RCn_rdR hcn k3 ν' ha
            rw [Array.toList_extract, List.extract_eq_take_drop]
            simpa using this
        | false =>
          simp only [hk, Bool.and_eq_true, decide_eq_true_eq] at hok ⊢
          obtain ⟨⟨⟨k1, k2⟩, k3⟩, k4⟩ := hok
          have k2 : j.toNat + 1 ≤ n := Nat.le_of_ble_eq_true k2
          have k4 : P.cellsOf e = 1 := by simpa using k4
          have key : ∀ (o' d' : Nat), d' + o' = j.toNat → (rd1 cs o' d').1 = true → ∃ y, ys[j.toNat]? = some y ∧ RVn nx ν (rd1 cs o' d').2 y := by
            intro o' d' hod hk3
            obtain ⟨y, hy, _⟩ := rd1_sound o' d' hcn.here hk3
            rw [Array.getElem?_toList, hod] at hy
            refine ⟨y, hy, fun ν' ha => ?_⟩
            obtain ⟨y', hy', hv⟩ := rd1_sound o' d' (hcn ν' ha) hk3
            rw [Array.getElem?_toList, hod, hy] at hy'
            cases hy'; exact hv
          have key2 : ∃ y, ys[j.toNat]? = some y ∧ RVn nx ν (match hom P fuelT e with | some _ => rd1 cs 0 j.toNat | none => rd1 cs j.toNat 0).2 y := by
            cases hhom : hom P fuelT e with
            | none => rw [hhom] at k3; exact key _ _ (by omega) k3
            | some kk => rw [hhom] at k3; exact key _ _ (by omega) k3
          obtain ⟨y, hy, hv⟩ := key2
          refine Out.quiet' (y := y) hh ?_ hv
          simp only [Sem.run_bind, Instr.index, asIntOf, run_underlying hu, Result.andThen_ok, Sem.run_pure]
          rw [if_pos (by omega)]
          simp only [Sem.run_bind, part, run_isAgg hk, Bool.false_eq_true, if_false, run_sizeOf (aggK_tyOk hk), Result.andThen_ok, k4, Nat.mul_one, hy, Sem.run_pure]

/-! conversions -/
theorem foldl_push_bytes : ∀ (ns : List Int) (s : ByteArray), (ns.foldl (fun r n => r.push (UInt8.ofNat n.toNat)) s).data.toList = s.data.toList ++ ns.map (fun n => UInt8.ofNat n.toNat)
  | [], s => by simp
  | n :: ns, s => by
    rw [List.foldl_cons, foldl_push_bytes ns]
    simp [ByteArray.push]

theorem isBytes_spec {t : TypeId} (h : isBytes P t = true) : ∃ e, P.underlying t = some (.slice e) ∧ P.underlying e = some (.int .u8) := by
  unfold isBytes at h
  cases hu : P.underlying t with
  | none => simp [hu] at h
  | some d =>
    cases d <;> simp only [hu] at h <;> try (simp at h; done)
    rename_i e
    cases hue : P.underlying e with
    | none => simp [hue] at h
    | some d =>
      cases d <;> simp only [hue] at h <;> try (simp at h; done)
      rename_i k
      cases k <;> first | (simp at h; done) | exact ⟨e, rfl, hue⟩

theorem run_toStr {s t : TypeId} (hs : isBytes P s = true) (ht : P.underlying t = some .string) {b off len cap : Nat} {c : Array Value} {e : TypeId} {fr : Nat × Nat} {xs : List Int}
    (hb : w.heap[b]? = some (.cells c e fr)) (hl : len = 0 ∨ off + len ≤ c.size) (hx : (c.toList.drop off).take len = xs.map (Value.int .u8)) :
    ∃ q : ByteArray, (convert s t (.slice (some ⟨b, off, none⟩) len cap)).run P w = .ok (.string q) w ∧ q.data.toList.map (fun b => (b.toNat : Int)) = xs.map (fun z => ((z.toNat % 256 : Nat) : Int)) := by
  obtain ⟨e', h1, h2⟩ := isBytes_spec hs
  refine ⟨xs.foldl (fun r n => r.push (UInt8.ofNat n.toNat)) ByteArray.empty, ?_, ?_⟩
  · rw [run_convert_bytes_string w s t e' _ _ _ h1 h2 ht]
    exact run_bytesToString w _ len cap xs (by rw [run_loadCells_row hb hl, hx])
  · rw [foldl_push_bytes]
    simp

theorem modify_push_last {α : Type _} (a : Array α) (x : α) (f : α → α) : (a.push x).modify a.size f = a.push (f x) := by
  apply Array.ext
  · simp
  · intro i h1 h2
    simp only [Array.getElem_modify, Array.getElem_push]
    simp at h1 h2
    by_cases hi : i < a.size
    · have : ¬ a.size = i := by omega
      simp [hi, this]
    · have : i = a.size := by omega
      subst this
      simp

theorem one_ints {ν : Nm} {k : IntKind} {n : Nat} {xs : List Int} {ys : List Value} (h : RC ν [.ints k n xs] ys) : xs.length = n ∧ ys = xs.map (Value.int k) := by
  have := h.of_single
  cases this with
  | ints _ _ _ _ h1 h2 => exact ⟨h1, h2⟩

theorem op_convert (hρ : ∀ x, RVn nx ν (ρ x) (σ x)) (hh : RH nx ν h w) {s t : TypeId} {x : Operand} (ho : o.op = .convert s t x)
    (hok : (ev1 P ρ h nx (.convert s t x)).ok = true) : Out P r nx ν h w (execOp σ o) (ev1 P ρ h nx (.convert s t x)) := by
  have hx := hρ x
  simp only [execOp, ho]
  simp only [ev1] at hok ⊢
  generalize ρ x = v at *
  have hx0 := hx.here
  generalize σ x = y at *
  cases hu : P.underlying t with
  | none => cases hx0 <;> simp [hu, bad] at hok
  | some d =>
    cases hx0 <;> (try (simp [bad] at hok; done)) <;> (cases d <;> simp only [hu] at hok ⊢ <;> try (simp [bad] at hok; done))
    · -- a number
      obtain ⟨ds, hs⟩ := Option.isSome_iff_exists.1 hok
      refine Out.quiet' (y := .int _ _) hh ?_ (rvn_i _ _)
      simp only [Sem.run_bind, convert, run_underlying hs, run_underlying hu, Result.andThen_ok, Conv.intToInt, Sem.run_pure]
    · -- a text to a text
      rename_i q l hl
      cases hs : P.underlying s with
      | none => simp [hs] at hok
      | some ds =>
        cases ds <;> simp only [hs] at hok <;> try (simp at hok; done)
        refine Out.quiet' (y := .string q) hh ?_ (rvn_s hl)
        simp only [Sem.run_bind, convert, run_underlying hs, run_underlying hu, Result.andThen_ok, Sem.run_pure]
    · -- a text to bytes
      rename_i q l hl e
      cases hue : P.underlying e with
      | none => simp [hue, bad] at hok
      | some de =>
        cases de <;> simp only [hue] at hok ⊢ <;> try (simp [bad] at hok; done)
        rename_i k
        cases k <;> simp only at hok ⊢ <;> try (simp [bad] at hok; done)
        cases hs : P.underlying s with
        | none => simp [hs] at hok
        | some ds =>
          cases ds <;> simp only [hs] at hok <;> try (simp at hok; done)
          let cap := q.size + w.tape w.drawn (.appendCap q.size 0 e) % (2 ^ 63 - q.size)
          let C : Array Value := q.data.map (fun b => .int .u8 b.toNat) ++ Array.replicate (cap - q.size) (.int .u8 0)
          have hqs : q.data.size = q.size := rfl
          have hC : C.size = cap := by
            show (q.data.map _ ++ Array.replicate _ _).size = cap
            simp only [Array.size_append, Array.size_map, Array.size_replicate, hqs]; omega
          have hll : l.length = q.size := by rw [hl, List.length_map]; rfl
          obtain ⟨g1, g2, g3⟩ := alloc_new (r := r) hh (cs := [.ints .u8 l.length l]) (c := C) e (C.size, C.size + 1) (fun i hi => by omega) (ys := l.map (Value.int .u8)) (zs := List.replicate (cap - q.size) (.int .u8 0))
            (by show (q.data.map _ ++ Array.replicate _ _).toList = _
                rw [Array.toList_append, Array.toList_map, Array.toList_replicate, hl, List.map_map]; rfl)
            (fun ν' _ => RC.single (.ints _ _ _ _ rfl rfl)) (w' := { w with heap := w.heap.push (.cells C e (C.size, C.size + 1)), drawn := w.drawn + 1 }) rfl rfl rfl rfl
          refine ⟨_, .slice (some ⟨w.heap.size, 0, none⟩) q.size cap, _, _, ?_, .inl rfl, Nat.le_succ _, g3, ?_, g1, g2⟩
          · simp only [Sem.run_bind, convert, run_underlying hs, run_underlying hu, run_underlying hue, Result.andThen_ok, Conv.stringToBytes, run_choose, Question.forced, Bool.false_eq_true, if_false, newRow, run_newObj,
              Sem.run_pure, markStringish, run_shape]
            simp only [World.shape?, Question.cut, Array.getElem?_push_size, run_freeze, World.freeze, Result.andThen_ok, Sem.run_bind, Sem.run_pure]
            rw [if_neg (by decide), modify_push_last]
            rfl
          · intro ν'' ha
            have hnm : ν'' nx = some (some (w.heap.size, C.size)) := by rw [ha nx (Nat.lt_succ_self _)]; exact setNm_same _ _ _
            rw [hll]
            exact .sq ⟨nx, 0, 0⟩ _ _ 0 1 _ _ hnm (by show q.size ≤ q.size + _; omega) (.inl rfl) (.inr (by rw [hC]; omega))
    · -- none
      obtain ⟨e, h1, h2⟩ := isBytes_spec hok
      refine Out.quiet' (y := .string .empty) hh ?_ (rvn_s rfl)
      rw [Sem.run_bind, run_convert_bytes_string w s t e none _ _ h1 h2 hu]
      rfl
    · rename_i a b sz off len cap h1 h2 h3
      split at hok
      · rename_i n xs hg
        simp only [Bool.and_eq_true] at hok
        obtain ⟨k1, k2⟩ := hok
        have k2 : a.d + a.o + len ≤ n := Nat.le_of_ble_eq_true k2
        obtain ⟨c, e, fr, ys, hb, hs, hf, hc, zs, he⟩ := hh.read hg h1
        obtain ⟨e1, e2⟩ := one_ints hc.here
        have hlen : ys.length ≤ c.size := by rw [← Array.length_toList, he]; simp
        have hyl : ys.length = n := by rw [e2, List.length_map, e1]
        have hoff : len = 0 ∨ off = a.d + a.o := by omega
        obtain ⟨q, q1, q2⟩ := run_toStr k1 hu (b := b) (off := off) (len := len) (cap := cap) (xs := sub n (a.d + a.o) len xs) hb (by omega) (by
          rcases hoff with h0 | h0
          · subst h0; rw [sub_eq e1]; simp
          · rw [h0, take_drop_prefix he (.inr (by omega)), e2, sub_eq e1, List.map_take, List.map_drop])
        refine Out.quiet' (y := .string q) hh (by rw [Sem.run_bind, q1]; rfl) (rvn_s q2.symm)
      · simp [bad] at hok
    · rename_i a b sz off w' len cap h1 h2 h3 h4
      split at hok
      · rename_i n xs hg
        simp only [Bool.and_eq_true] at hok
        obtain ⟨k1, k2⟩ := hok
        have k2 : a.d + a.o + len ≤ n := Nat.le_of_ble_eq_true k2
        obtain ⟨c, e, fr, ys, hb, hs, hf, hc, zs, he⟩ := hh.read hg h1
        obtain ⟨e1, e2⟩ := one_ints hc.here
        have hlen : ys.length ≤ c.size := by rw [← Array.length_toList, he]; simp
        have hyl : ys.length = n := by rw [e2, List.length_map, e1]
        have hoff : len = 0 ∨ off = a.d + a.o := by omega
        obtain ⟨q, q1, q2⟩ := run_toStr k1 hu (b := b) (off := off) (len := len) (cap := cap) (xs := sub n (a.d + a.o) len xs) hb (by omega) (by
          rcases hoff with h0 | h0
          · subst h0; rw [sub_eq e1]; simp
          · rw [h0, take_drop_prefix he (.inr (by omega)), e2, sub_eq e1, List.map_take, List.map_drop])
        refine Out.quiet' (y := .string q) hh (by rw [Sem.run_bind, q1]; rfl) (rvn_s q2.symm)
      · simp [bad] at hok
    · rename_i a w' len h1 h2
      subst h2
      split at hok
      · rename_i n xs hg
        simp only [Bool.and_eq_true] at hok
        obtain ⟨k1, k2⟩ := hok
        obtain ⟨e1, e2⟩ := one_ints (hh.nil _ _ hg h1).here
        have hx0 : xs = [] := by cases xs <;> first | rfl | simp at e2
        obtain ⟨e, g1, g2⟩ := isBytes_spec k1
        refine Out.quiet' (y := .string .empty) hh ?_ (rvn_s (by rw [sub_eq e1, hx0]; simp))
        rw [Sem.run_bind, run_convert_bytes_string w s t e none _ _ g1 g2 hu]
        rfl
      · simp [bad] at hok

end Go.Am
