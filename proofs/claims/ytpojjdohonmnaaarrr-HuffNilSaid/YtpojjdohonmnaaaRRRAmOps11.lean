/-
  A part of an abstract machine that runs a function's text over symbolic values, and of the proof that the machine is sound over the model. No condition.
-/
import Derived.Test.YtpojjdohonmnaaaRRRAmOps10
namespace Go.Am
open Go Go.RowKit

variable {P : Program} {nx : Nat} {r : Nat → Prop} {ν : Nm} {h : Hp} {w : World} {ρ : Operand → V} {σ : Operand → Value} {o : Oper}

/-- a list that is none, under a new name -/
theorem new_nil (hh : RH nx ν h w) {cs : List Seg} (hc : RCn nx ν cs []) :
    RH (nx + 1) (setNm ν nx (some none)) ((nx, some cs) :: h) w ∧ Ext r ν h w (setNm ν nx (some none)) ((nx, some cs) :: h) w ∧ Agr nx ν (setNm ν nx (some none)) := by
  have ha : Agr nx ν (setNm ν nx (some none)) := setNm_agr _ _ _
  have hsame : setNm ν nx (some none) nx = some none := setNm_same _ _ _
  have key : ∀ m q, hget ((nx, some cs) :: h) m = some q → (m = nx ∧ q = cs) ∨ hget h m = some q := by
    intro m q hm
    rw [hget_cons] at hm
    split at hm
    · rename_i e; simp at hm; exact .inl ⟨e.symm, hm.symm⟩
    · exact .inr hm
  refine ⟨⟨fun m q hm => ?_, fun m q b sz hm hν => ?_, fun m q hm hν => ?_, fun m m' q q' b sz sz' hm hm' h1 h2 => ?_⟩, ⟨rfl, rfl, rfl, Nat.le_refl _, fun _ _ _ => rfl, fun m q b sz hm hr' hν => ?_⟩, ha⟩
  · rcases key m q hm with ⟨rfl, _⟩ | h1
    · omega
    · have := hh.lt m q h1; omega
  · rcases key m q hm with ⟨rfl, _⟩ | h1
    · rw [hsame] at hν; simp at hν
    · rw [ha m (hh.lt m q h1)] at hν
      obtain ⟨c, e, fr, h3, h4, h5, ys, zs, h6, h7⟩ := hh.blk m q b sz h1 hν
      exact ⟨c, e, fr, h3, h4, h5, ys, zs, h6, h7.mono ha (by omega)⟩
  · rcases key m q hm with ⟨rfl, rfl⟩ | h1
    · exact hc.mono ha (by omega)
    · rw [ha m (hh.lt m q h1)] at hν
      exact (hh.nil m q h1 hν).mono ha (by omega)
  · rcases key m q hm with ⟨rfl, _⟩ | k1
    · rw [hsame] at h1; simp at h1
    · rcases key m' q' hm' with ⟨rfl, _⟩ | k2
      · rw [hsame] at h2; simp at h2
      · rw [ha m (hh.lt m q k1)] at h1
        rw [ha m' (hh.lt m' q' k2)] at h2
        exact hh.inj m m' q q' b sz sz' k1 k2 h1 h2
  · rcases key m q hm with ⟨rfl, _⟩ | h1
    · rw [hsame] at hν; simp at hν
    · rw [ha m (hh.lt m q h1)] at hν
      exact .inr ⟨m, q, sz, h1, hr', hν⟩

theorem first_none (n len cap : Nat) (w : World) : (Builtin.firstCells n len (.slice none cap cap)).run P w = .ok #[] w := by simp [Builtin.firstCells]

theorem op_append (hρ : ∀ x, RVn nx ν (ρ x) (σ x)) (hh : RH nx ν h w) {c : Call} (ho : o.op = .call c) (hb : c.callee = .builtin .append)
    (hr : ∀ a w' len, (c.args.toList.map ρ).head? = some (.sq a w' len) → r a.n)
    (hok : (ev1 P ρ h nx (.call c)).ok = true) : Out P r nx ν h w (execOp σ o) (ev1 P ρ h nx (.call c)) := by
  obtain ⟨bs, hrun⟩ := builtin_run (P := P) ho hb σ w
  refine Out.congr hrun ?_
  simp only [ev1, hb] at hok ⊢
  cases ht : c.argTypes[0]? with
  | none => simp [ht, bad] at hok
  | some t =>
    simp only [ht] at hok ⊢
    cases hl : c.args.toList.map ρ with
    | nil => simp [hl, bad] at hok
    | cons s l =>
      cases l with
      | nil => simp [hl, bad] at hok
      | cons x l =>
        cases l with
        | cons _ _ => simp [hl, bad] at hok
        | nil =>
          simp only [hl] at hok ⊢
          obtain ⟨y, z, hyz, hy, hz⟩ := args_two hρ hl
          have hrs : ∀ a w' len, s = .sq a w' len → r a.n := fun a w' len e => hr a w' len (by rw [hl, e]; rfl)
          have hy0 : (c.args.map σ)[0]? = some y := by rw [← Array.getElem?_toList, hyz]; rfl
          have hz0 : (c.args.map σ)[1]? = some z := by rw [← Array.getElem?_toList, hyz]; rfl
          cases hga : apArg P c.argTypes with
          | false => simp [hga, bad] at hok
          | true =>
            simp only [hga, Bool.not_true, cond_false] at hok ⊢
            cases hu : P.underlying t with
            | none => simp [hu, bad] at hok
            | some d =>
              cases d <;> simp only [hu] at hok ⊢ <;> try (simp [bad] at hok; done)
              rename_i e
              cases hap : apOk P e with
              | false => simp [hap, bad] at hok
              | true =>
                simp only [hap, Bool.not_true, cond_false] at hok ⊢
                obtain ⟨i, i1, i2, i3, i4, i5, _⟩ := apOk_spec hap
                have hty : tyOk P e = true := by simp [tyOk, i1]
                have hh1 : RH nx ν h { w with drawn := w.drawn + 1 } := hh.of_heap rfl
                have he1 : Ext r ν h w ν h { w with drawn := w.drawn + 1 } := Ext.of_heap rfl rfl rfl rfl
                -- what is appended
                have hcont : (content h (P.cellsOf e) x).1 = true → ∃ n, alen x = some n ∧ (content h (P.cellsOf e) x).2.1 = n ∧ (contentN h (P.cellsOf e) n x).1 = true ∧ (content h (P.cellsOf e) x).2.2 = (contentN h (P.cellsOf e) n x).2 := by
                  intro hc
                  unfold content at hc ⊢
                  cases hn : alen x with
                  | none => simp [hn] at hc
                  | some n => simp only [hn] at hc ⊢; exact ⟨n, rfl, rfl, hc, rfl⟩
                have hy1 := hy.here
                cases hy1 <;> (try (simp [bad] at hok; done))
                · -- none
                  rename_i len cap
                  simp only [Bool.and_eq_true] at hok ⊢
                  obtain ⟨⟨⟨k1, k2⟩, k3⟩, k4⟩ := hok
                  have k2 : len = 0 := by simpa using k2
                  have k3 : cap = 0 := by simpa using k3
                  subst k2 k3
                  obtain ⟨n, n1, n2, n3, n4⟩ := hcont k1
                  rw [n2] at k4; rw [n2, n4]
                  have hlen := lenOf_run (P := P) hz.here n1 w
                  rcases Nat.eq_zero_or_pos n with h0 | h0
                  · subst h0
                    obtain ⟨zs, z1, z2, z3⟩ := content_run (P := P) hz hh n1 (Nat.le_refl _) n3
                    have : zs = [] := List.eq_nil_of_length_eq_zero (by rw [z3]; simp)
                    subst this
                    obtain ⟨g1, g2, g3⟩ := new_nil (r := r) hh z2
                    exact ⟨_, _, w, _, run_append_in hu hty ht hga hy0 hz0 hlen z1 (Nat.le_refl _) (w' := w) rfl, .inl rfl, Nat.le_succ _, g3,
                      fun ν' ha => .sqn _ _ _ (by rw [ha nx (Nat.lt_succ_self _)]; exact setNm_same _ _ _) rfl, g1, g2⟩
                  · obtain ⟨zs, z1, z2, z3⟩ := content_run (P := P) hz hh1 n1 (Nat.le_refl _) n3
                    obtain ⟨newCap, c1, rest, c2, c3⟩ := run_append_out hu hap ht hga hy0 hz0 hlen (by omega : 0 < 0 + n) (by simpa using k4)
                    rw [Nat.zero_add] at c1 c2 c3
                    obtain ⟨ν', g1, g2, g3, g4⟩ := grow_new (r := r) hh hap (us := []) (old := []) (fun _ _ => RC.nil) z2 (need := n) (by simpa using z3) c1 c2
                    exact ⟨_, _, _, ν', c3 [] zs (first_none _ _ _ _) z1 _ _, .inl rfl, Nat.le_succ _, g3, g4, g1, g2⟩
                · -- an exact one: it must grow
                  rename_i a b sz off len cap h1 h2 h3
                  dsimp only at hok ⊢
                  cases hg : hget h a.n with
                  | none => simp [hg, bad] at hok
                  | some cs =>
                    simp only [hg, Bool.and_eq_true] at hok ⊢
                    obtain ⟨⟨⟨k1, k2⟩, k3⟩, k4⟩ := hok
                    obtain ⟨n, n1, n2, n3, n4⟩ := hcont k1
                    rw [n2] at k3 k4; rw [n2, n4]
                    have k3 : cap + 1 ≤ len + n := Nat.le_of_ble_eq_true k3
                    have hlen := lenOf_run (P := P) hz.here n1 w
                    obtain ⟨zs, z1, z2, z3⟩ := content_run (P := P) hz hh1 n1 (Nat.le_refl _) n3
                    obtain ⟨us, u1, u2, u3⟩ := content_run (P := P) (sz := P.cellsOf e) (k := len) hy hh1 (n := len) rfl (Nat.le_refl _) (by simp only [contentN, hg]; exact k2)
                    have u2 : RCn nx ν (rdR cs a.o a.d (mulw len (P.cellsOf e))).2 us := by simpa only [contentN, hg] using u2
                    obtain ⟨newCap, c1, rest, c2, c3⟩ := run_append_out hu hap ht hga hy0 hz0 hlen (by omega : cap < len + n) k4
                    obtain ⟨ν', g1, g2, g3, g4⟩ := grow_new (r := r) hh hap u2 z2 (need := len + n) (by rw [u3, z3, Nat.add_mul]) c1 c2
                    exact ⟨_, _, _, ν', c3 us zs u1 z1 _ _, .inl rfl, Nat.le_succ _, g3, g4, g1, g2⟩
                · -- one of the function's own
                  rename_i a b sz off w' len cap h1 h2 h3 h4
                  have hra := hrs a w' len rfl
                  dsimp only at hok ⊢
                  cases hg : hget h a.n with
                  | none => simp [hg, bad] at hok
                  | some cs =>
                    simp only [hg, Bool.and_eq_true] at hok ⊢
                    obtain ⟨⟨⟨⟨k1, k2⟩, k3⟩, k4⟩, k5⟩ := hok
                    obtain ⟨n, n1, n2, n3, n4⟩ := hcont k1
                    rw [n2] at k5; rw [n2, n4]
                    have k3 : w' = P.cellsOf e := by simpa using k3
                    have k4 : a.d + a.o = 0 := by simpa using k4
                    have ka : a.d = 0 ∧ a.o = 0 := by omega
                    have hlen := lenOf_run (P := P) hz.here n1 w
                    have hcn : (contentN h (P.cellsOf e) len (.sq a w' len)).1 = true := by simp only [contentN, hg, ka.1, ka.2]; exact k2
                    rcases Nat.lt_or_ge cap (len + n) with hlt | hge
                    · obtain ⟨zs, z1, z2, z3⟩ := content_run (P := P) hz hh1 n1 (Nat.le_refl _) n3
                      obtain ⟨us, u1, u2, u3⟩ := content_run (P := P) (sz := P.cellsOf e) (k := len) hy hh1 (n := len) rfl (Nat.le_refl _) hcn
                      have u2 : RCn nx ν (rdR cs 0 0 (mulw len (P.cellsOf e))).2 us := by simpa only [contentN, hg, ka.1, ka.2] using u2
                      obtain ⟨newCap, c1, rest, c2, c3⟩ := run_append_out hu hap ht hga hy0 hz0 hlen hlt k5
                      have hhd : RH nx ν ((a.n, none) :: h) w := hh.drop tomb_drop
                      obtain ⟨ν', g1, g2, g3, g4⟩ := grow_new (r := r) hhd hap u2 z2 (need := len + n) (by rw [u3, z3, Nat.add_mul]) c1 c2
                      rw [k3]
                      exact ⟨_, _, _, ν', c3 us zs u1 z1 _ _, .inl rfl, Nat.le_succ _, g3, g4, g1, (Ext.drop tomb_drop).trans g2⟩
                    · obtain ⟨zs, z1, z2, z3⟩ := content_run (P := P) hz hh n1 (Nat.le_refl _) n3
                      obtain ⟨cc, e', fr, ys, hb', hs, hf, hc, us, he⟩ := hh.read hg h1
                      have hlen2 : ys.length ≤ cc.size := by rw [← Array.length_toList, he]; simp
                      obtain ⟨r1, r2⟩ := rdR_sound 0 0 (mulw len (P.cellsOf e)) hc.here k2
                      rw [mulw_eq] at r1
                      have hmul : len * P.cellsOf e + n * P.cellsOf e ≤ cap * P.cellsOf e := by rw [← Nat.add_mul]; exact Nat.mul_le_mul_right _ hge
                      have hzero : cap = 0 → len = 0 ∧ n = 0 := by omega
                      have hbnd : zs = [] ∨ off + len * P.cellsOf e + zs.length ≤ cc.size := by
                        rcases h4 with h4 | h4
                        · left; exact List.eq_nil_of_length_eq_zero (by rw [z3, (hzero h4).2]; simp)
                        · right; rw [hs, z3]; rw [k3] at h4; omega
                      obtain ⟨w2, s1, s2⟩ := run_storeCells_row (P := P) (o := off + len * P.cellsOf e) zs 0 w cc hb' (by rw [hs]; exact hf) (by simpa using hbnd) z2.here.one
                      have hrel : ∀ ν', Agr nx ν ν' → RC ν' (join (rdR cs 0 0 (mulw len (P.cellsOf e))).2 (contentN h (P.cellsOf e) n x).2) (ys.take (len * P.cellsOf e) ++ zs) := by
                        intro ν' ha
                        refine join_sound ?_ (z2 ν' ha)
                        have := RCn_rdR hc k2 ν' ha
                        rw [mulw_eq] at this ⊢
                        simpa using this
                      have hoff0 : off + len * P.cellsOf e = len * P.cellsOf e ∨ (zs = [] ∧ len = 0) := by
                        rcases h3 with h3 | h3
                        · left; omega
                        · right; exact ⟨List.eq_nil_of_length_eq_zero (by rw [z3, (hzero h3).2]; simp), (hzero h3).1⟩
                      obtain ⟨g1, g2, g3⟩ := rename_blk (r := r) hh hg hra (cs := join (rdR cs 0 0 (mulw len (P.cellsOf e))).2 (contentN h (P.cellsOf e) n x).2) (w' := w2) s2.size s2.os s2.tape s2.output
                        (fun k hk => s2.old k (hk b sz h1))
                        (fun b2 sz2 h5 => by
                          rw [h1] at h5; simp at h5
                          obtain ⟨rfl, rfl⟩ := h5
                          refine ⟨_, _, _, s2.blk, ?_, hf, ys.take (len * P.cellsOf e) ++ zs, (cc.toList.drop (len * P.cellsOf e + zs.length)), ?_, hrel⟩
                          · simp only [List.size_toArray, List.length_append, List.length_take, List.length_drop, Array.length_toList]
                            rcases hbnd with h6 | h6
                            · subst h6; simp only [List.length_nil]; omega
                            · omega
                          · rw [List.toList_toArray, Nat.add_zero]
                            have htk : cc.toList.take (len * P.cellsOf e) = ys.take (len * P.cellsOf e) := by
                              rw [he]
                              rcases r1 with r1 | r1
                              · rw [r1]; simp
                              · rw [List.take_append_of_le_length (by omega)]
                            rcases hoff0 with h6 | ⟨h6, h7⟩
                            · rw [h6, htk]
                            · subst h6 h7
                              simp)
                        (fun h5 => by rw [h1] at h5; simp at h5)
                      refine ⟨_, .slice (some ⟨b, off, none⟩) (len + n) cap, w2, _, run_append_in hu hty ht hga hy0 hz0 hlen z1 hge (w' := w2) (by dsimp only; rw [addr_add]; exact s1), .inl rfl, Nat.le_succ _, g3, ?_, g1, g2⟩
                      intro ν' ha
                      have hnm : ν' nx = some (some (b, sz)) := by rw [ha nx (Nat.lt_succ_self _), setNm_same]; exact h1
                      have hoff : off = (⟨nx, 0, 0⟩ : A).d + (⟨nx, 0, 0⟩ : A).o ∨ cap = 0 := by
                        rcases h3 with h3 | h3
                        · left; show off = 0 + 0; omega
                        · exact .inr h3
                      exact .sq ⟨nx, 0, 0⟩ b sz off (P.cellsOf e) (len + n) cap hnm hge hoff (by rw [← k3]; exact h4)
                · -- none, of the function's own
                  rename_i a w' len h1 h2
                  subst h2
                  have hra := hrs a w' 0 rfl
                  dsimp only at hok ⊢
                  cases hg : hget h a.n with
                  | none => simp [hg, bad] at hok
                  | some cs =>
                    simp only [hg, Bool.and_eq_true] at hok ⊢
                    obtain ⟨⟨⟨⟨k1, k2⟩, k3⟩, k4⟩, k5⟩ := hok
                    obtain ⟨n, n1, n2, n3, n4⟩ := hcont k1
                    rw [n2] at k5; rw [n2, n4]
                    have hlen := lenOf_run (P := P) hz.here n1 w
                    have hnl := hh.nil _ _ hg h1
                    have hold : RCn nx ν (rdR cs 0 0 (mulw 0 (P.cellsOf e))).2 [] := fun ν' ha => by
                      have := RCn_rdR hnl k2 ν' ha
                      simpa using this
                    rcases Nat.eq_zero_or_pos n with h0 | h0
                    · subst h0
                      obtain ⟨zs, z1, z2, z3⟩ := content_run (P := P) hz hh n1 (Nat.le_refl _) n3
                      have : zs = [] := List.eq_nil_of_length_eq_zero (by rw [z3]; simp)
                      subst this
                      obtain ⟨g1, g2, g3⟩ := rename_blk (r := r) hh hg hra (cs := join (rdR cs 0 0 (mulw 0 (P.cellsOf e))).2 (contentN h (P.cellsOf e) 0 x).2) (w' := w) rfl rfl rfl rfl (fun _ _ => rfl)
                        (fun b sz h5 => by rw [h1] at h5; simp at h5) (fun _ ν' ha => by simpa using join_sound (hold ν' ha) (z2 ν' ha))
                      exact ⟨_, _, w, _, run_append_in hu hty ht hga hy0 hz0 hlen z1 (Nat.le_refl _) (w' := w) rfl, .inl rfl, Nat.le_succ _, g3,
                        fun ν' ha => .sqn _ _ _ (by rw [ha nx (Nat.lt_succ_self _), setNm_same]; exact h1) rfl, g1, g2⟩
                    · obtain ⟨zs, z1, z2, z3⟩ := content_run (P := P) hz hh1 n1 (Nat.le_refl _) n3
                      obtain ⟨newCap, c1, rest, c2, c3⟩ := run_append_out hu hap ht hga hy0 hz0 hlen (by omega : 0 < 0 + n) k5
                      have hhd : RH nx ν ((a.n, none) :: h) w := hh.drop tomb_drop
                      obtain ⟨ν', g1, g2, g3, g4⟩ := grow_new (r := r) hhd hap (us := []) hold z2 (need := 0 + n) (by simpa using z3) c1 c2
                      exact ⟨_, _, _, ν', c3 [] zs (first_none _ _ _ _) z1 _ _, .inl rfl, Nat.le_succ _, g3, g4, g1, (Ext.drop tomb_drop).trans g2⟩

end Go.Am
