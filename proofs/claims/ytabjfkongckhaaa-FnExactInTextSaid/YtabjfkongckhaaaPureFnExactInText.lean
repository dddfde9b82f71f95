/- The law FnExactInText, over numbers alone: at every whole number the program's word and the reference's are the same. No condition. -/
import Derived.Test.YtabjfkongckhaaaPFnExactInTextx1
namespace Go.Proofs.Ytabjfkongckhaaa.Pure
open Go.RowKit Go.Proofs.Ytabjfkongckhaaa.PFnExactInText Go.Proofs.YtabjfkongckhaaaW.PrintWords Go.Proofs.YtabjfkongckhaaaW.PrintLast

theorem FnExactInText : laws_FnExactInText.Pure := by
  intro a _
  have e : spec_InText.f a = impl_InText.f a := by
    unfold spec_InText.f impl_InText.f
    simp only [Option.bind_some]
    have e6 : wrap64 ((([(⟨#[110, 101, 119]⟩ : ByteArray), (⟨#[116, 119, 105, 99, 101]⟩ : ByteArray), (⟨#[104, 101, 108, 108, 111]⟩ : ByteArray), (⟨#[101, 112, 111, 99, 104]⟩ : ByteArray), (⟨#[99, 114, 101, 100, 105, 116]⟩ : ByteArray), (⟨#[99, 108, 111, 115, 101, 100]⟩ : ByteArray), (⟨#[98, 97, 100]⟩ : ByteArray)] : List ByteArray).length : Int) - 1) = 6 := by unfold wrap64; simp
    rw [e6]
    rfl
  have h : ∃ r, impl_InText.f a = some r := by
    unfold impl_InText.f impl_within.f
    by_cases h0 : a ≥ 0
    · by_cases h1 : a ≤ 6
      · rw [if_pos h0, decide_eq_true h1]
        simp only [Option.bind_some, if_true]
        rw [if_pos (show 0 ≤ a from h0), if_pos (by simp; omega)]
        exact ⟨_, rfl⟩
      · rw [if_pos h0, decide_eq_false h1]
        exact ⟨_, rfl⟩
    · rw [if_neg h0]
      exact ⟨_, rfl⟩
  obtain ⟨r, hr⟩ := h
  unfold laws_FnExactInText.f
  rw [e, hr]
  simp
end Go.Proofs.Ytabjfkongckhaaa.Pure
