/-
  A part of an abstract machine that runs a function's text over symbolic values, and of the proof that the machine is sound over the model. No condition.
-/
import Derived.Test.YtpojjdohonmnaaaRRRAmOps11
namespace Go.Am
open Go Go.RowKit

variable {P : Program} {nx : Nat} {r : Nat → Prop} {ν : Nm} {h : Hp} {w : World} {ρ : Operand → V} {σ : Operand → Value} {o : Oper}

theorem ev1_sound (hρ : ∀ x, RVn nx ν (ρ x) (σ x)) (hh : RH nx ν h w) (hw : ∀ n ∈ (foot ρ h o.op).2, r n) (hok : (ev1 P ρ h nx o.op).ok = true) :
    Out P r nx ν h w (execOp σ o) (ev1 P ρ h nx o.op) := by
  cases ho : o.op <;> (rw [ho] at hok hw)
  case move x => exact op_move hρ hh (.inl ho)
  case assign x => exact op_move hρ hh (.inr ho)
  case pick c a b => exact op_pick hρ hh ho hok
  case alloc t => exact op_alloc hh ho hok
  case box t x => exact op_box hρ hh ho hok
  case build t ps => exact op_build hρ hh ho hok
  case buildSlice t l ps => exact op_buildSlice hρ hh ho hok
  case load t x => exact op_load hρ hh ho hok
  case store t x y => exact op_store hρ hh ho (fun a ha => hw a.n (by simp [foot, ha, nmOf])) hok
  case nilCheck x => exact op_nilCheck hρ hh ho hok
  case binOp => exact op_binOp hρ hh ho hok
  case unOp => exact op_unOp hρ hh ho hok
  case convert => exact op_convert hρ hh ho hok
  case sliceToArrayPointer => exact op_sliceToArrayPointer hρ hh ho hok
  case makeInterface => exact op_makeInterface hρ hh ho hok
  case makeFunc => exact op_makeFunc hρ hh ho hok
  case makeSlice => exact op_makeSlice hρ hh ho hok
  case slice => exact op_slice hρ hh ho hok
  case fieldAddr => exact op_fieldAddr hρ hh ho hok
  case field => exact op_field hρ hh ho hok
  case indexAddr => exact op_indexAddr hρ hh ho hok
  case index => exact op_index hρ hh ho hok
  case extract => exact op_extract hρ hh ho hok
  case call c =>
    cases hc : c.callee with
    | value x => simp [ev1, hc, bad] at hok
    | invoke x n => simp [ev1, hc, bad] at hok
    | builtin b =>
      cases b <;> try (simp [ev1, hc, bad] at hok; done)
      · refine op_append hρ hh ho hc (fun a w' len hd => ?_) hok
        have hl : ∃ x, c.args.toList.map ρ = [.sq a w' len, x] := by
          simp only [ev1, hc] at hok
          cases ht : c.argTypes[0]? with
          | none => simp [ht, bad] at hok
          | some t =>
            simp only [ht] at hok
            split at hok <;> try (simp [bad] at hok; done)
            rename_i t' s x _ heq
            rw [heq] at hd ⊢
            simp at hd
            exact ⟨x, by rw [hd]⟩
        obtain ⟨x, hl⟩ := hl
        exact hw a.n (by simp [foot, hc, hl])
      · exact op_cap hρ hh ho hc hok
      · refine op_copy hρ hh ho hc (fun v hd n hn => ?_) hok
        have hl : ∃ x, c.args.toList.map ρ = [v, x] := by
          simp only [ev1, hc] at hok
          cases ht : c.argTypes[0]? with
          | none => simp [ht, bad] at hok
          | some t =>
            simp only [ht] at hok
            split at hok <;> try (simp [bad] at hok; done)
            rename_i t' s x _ heq
            rw [heq] at hd ⊢
            simp at hd
            exact ⟨x, by rw [hd]⟩
        obtain ⟨x, hl⟩ := hl
        exact hw n (by simp [foot, hc, hl]; exact hn)
      · exact op_len hρ hh ho hc hok
      · exact op_max hρ hh ho hc hok
      · exact op_min hρ hh ho hc hok
  all_goals (simp only [ev1, bad] at hok; cases hok)

end Go.Am
