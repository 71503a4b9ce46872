import Derived.Test.Qxb6500374aRows
import Derived.Test.Qxb6500374aKp
import Derived.Test.Qxb6500374aFacts
import Derived.WalkKit
import Derived.ProofKit
import Derived.OpenShut
import Derived.Carry
namespace Go.Proofs.Qxb6500374a.keeps
open Go.Proofs.Qxb6500374a.W (ScriptAt script_open OpD keeps_calls)
open Go.ChangeShapes Go.WideShapes Go.ChangeAt Go.RowKit
set_option linter.unusedVariables false

theorem walk (ap : Option Addr) (al ac : Nat) (w : World) (f : Nat → OpD) (hs : ScriptAt w ap al f) (hl : al ≤ maxLen) :
    Calls Try.prog 18 #[.slice ap al ac] w fun e w' => e = .returned (.bool true) ∧ Below w.heap.size w w' := by
  exact (keeps_calls hs hl).mono fun e w' h => ⟨h.1, h.2.below (Nat.le_refl _) (by simp)⟩

set_option maxRecDepth 100000 in
theorem lifted (os : Os) (started : os.Started) (H : Type) (enc : TypeId × Value → H) :
    ReturnsInHanded {} Try.checked os 18 .any (Rows.keepsSpec.pre6 enc Try.prog Try.f18 Rows.keepsRow.domain false) (Rows.keepsSpec.post enc Try.prog Try.f18 false true false false) := by
  refine returnsInHanded_of_change (C := Try.checked) Facts.own started (by kernel_rfl) Try.func18
    (ChangeSpec.witness6 (enc := enc) (C := Try.checked) false ⟨#[], #[.slice none 0 0], []⟩ 8 (by kernel_rfl) (by kernel_rfl) (by kernel_rfl) (by kernel_rfl)) ?_
  intro W base args ds gs before hval0 hW hcnd _
  have hval : ∀ (j : Nat) t v, Try.f18.params[j]? = some t → args[j]? = some v → Value.okWide Try.prog W .any base t v := hval0
  have hW' := hW
  obtain ⟨p, q, hA0, hV, rfl, hfz, hnd⟩ := hW
  have hA : DataW.TrodAll enc Try.prog W 0 (fun _ => true) true Try.f18.params.toList args.toList ds p := hA0
  rw [Try.params18] at hA hval
  obtain ⟨v0, vs0, d0, ds0, p0, q0, hargs, rfl, rfl, h0, r0⟩ := trodAll_cons hA
  obtain ⟨rfl, rfl, rfl⟩ := trodAll_nil r0
  obtain rfl : args = #[v0] := by cases args; simp_all
  obtain ⟨rfl, rfl⟩ := trodVars_none hV
  obtain ⟨a0, len0, cap0, rfl⟩ := okWide_slice Try.underlying22 (hval 0 22 v0 rfl rfl)
  have k0 := h0
  have lt0 : ∀ x ∈ p0, x.block < W.heap.size := by obtain ⟨m, hm⟩ := k0; exact DataW.trod_lt m _ _ _ hm
  clear hA0 hval0
  obtain ⟨hlm, f, hsc⟩ : len0 ≤ maxLen ∧ ∃ f, ScriptAt W a0 len0 f := by
    obtain ⟨m, hm⟩ := k0
    exact script_open hm
  refine (walk a0 len0 cap0 W f hsc hlm).mono fun e W' ⟨he, bel⟩ => ?_
  subst he
  exact ⟨_, rfl, _, _, _, [], _, [], hW', trodAll_mk1 (shut_bool Try.underlying4 _), (trodAll_cons_mk (Below.trod Facts.laidOut (by kernel_rfl) (of_decide_eq_true (by kernel_rfl)) k0 bel lt0) trodAll_mk0), rfl, bel.frame _, fun h => by cases h⟩

theorem inPlace : (Rows.keepsRow.inPlace == Try.prog.inPlace 18) = true := by kernel_rfl
theorem unfollowed : (Rows.keepsRow.unfollowed == Try.prog.unfollowed 18) = true := by kernel_rfl
theorem recurses : (Rows.keepsRow.recurses == Try.prog.recurses 18) = true := by kernel_rfl
theorem named : (Rows.keepsRow.named == Try.prog.varsNamed 18) = true := by kernel_rfl

theorem facts : joinedFacts Try.prog 18 Try.f18 Rows.keepsSpec Rows.keepsRow = true :=
  Facts.facts 18 Try.f18 Rows.keepsSpec Rows.keepsRow (by kernel_rfl) rfl rfl rfl inPlace unfollowed recurses named (by kernel_rfl) rfl rfl rfl rfl rfl rfl rfl rfl rfl rfl rfl rfl rfl rfl rfl (by kernel_rfl) rfl (by kernel_rfl)

theorem over : Rows.keepsRow.holds Try.pinned (OpenSpec.ofChange Rows.keepsSpec) :=
  OpenClaim.holds_of_wide 18 Try.f18 rfl rfl rfl rfl rfl rfl rfl ⟨rfl, rfl, rfl, rfl, rfl⟩ rfl rfl rfl rfl rfl (by kernel_rfl) Try.func18 facts
    (of_decide_eq_true (by kernel_rfl)) (by unfold Func.isWrapper; first | (rw [if_pos (by decide +kernel)]; kernel_rfl) | (rw [if_neg (by decide +kernel)]; exact ⟨rfl, rfl⟩))
    (fun os started H enc _ => lifted os started H enc)

theorem proved : Rows.KeepsSaid :=
  over
end Go.Proofs.Qxb6500374a.keeps
