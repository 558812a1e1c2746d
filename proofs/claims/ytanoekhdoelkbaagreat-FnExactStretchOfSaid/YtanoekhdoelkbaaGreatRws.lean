/- For every input the law FnExactStretchOf returns true, and its arguments read behind the call as they read before. No conditions. -/
import Derived.Test.YtanoekhdoelkbaaGreatRdr
import Derived.Test.YtanoekhdoelkbaaGreatLbg
import Derived.Test.YtanoekhdoelkbaaGreatRows
import Derived.WalkKit
import Derived.ProofKit
import Derived.OpenShut
import Derived.ChangeOld
import Derived.Below
set_option linter.unusedSimpArgs false
set_option linter.unusedVariables false
namespace Go.Proofs.YtanoekhdoelkbaaGreat
open Go Go.Proofs.Qqz Go.ChangeShapes Go.WideShapes Go.ChangeAt Go.RowKit

theorem stretchOfOwn : ownKnob Tryz.prog.godebug = none := by kernel_rfl
theorem stretchOfLaid : laidOutB Tryz.prog = true := by kernel_rfl

set_option maxRecDepth 100000 in
theorem stretchOfLifted (os : Os) (started : os.Started) (H : Type) (enc : TypeId × Value → H) :
    ReturnsInHanded {} Tryz.checked os 9 .any (Rows.fnExactStretchOfSpec.pre6 enc Tryz.prog Tryz.f9 Rows.fnExactStretchOfRow.domain false) (Rows.fnExactStretchOfSpec.post enc Tryz.prog Tryz.f9 false true false false) := by
  refine returnsInHanded_of_change (C := Tryz.checked) stretchOfOwn started (by kernel_rfl) Tryz.func9
    (ChangeSpec.witness6 (enc := enc) (C := Tryz.checked) false ⟨#[], #[.agg #[.slice none 0 0, .slice none 0 0], .int .i64 0, .slice none 0 0], []⟩ 8 (by kernel_rfl) (by kernel_rfl) (by kernel_rfl) (by kernel_rfl)) ?_
  intro W base args ds gs before hval0 hW hcnd _
  have hval : ∀ (j : Nat) t v, Tryz.f9.params[j]? = some t → args[j]? = some v → Value.okWide Tryz.prog W .any base t v := hval0
  have hW' := hW
  obtain ⟨p, q, hA0, hV, rfl, hfz, hnd⟩ := hW
  have hA : DataW.TrodAll enc Tryz.prog W 0 (fun _ => true) true Tryz.f9.params.toList args.toList ds p := hA0
  rw [Tryz.params9] at hA hval
  obtain ⟨v0, vs0, d0, ds0, p0, q0, hargs, rfl, rfl, h0, r0⟩ := trodAll_cons hA
  obtain ⟨v1, vs1, d1, ds1, p1, q1, rfl, rfl, rfl, h1, r1⟩ := trodAll_cons r0
  obtain ⟨v2, vs2, d2, ds2, p2, q2, rfl, rfl, rfl, h2, r2⟩ := trodAll_cons r1
  obtain ⟨rfl, rfl, rfl⟩ := trodAll_nil r2
  obtain rfl : args = #[v0, v1, v2] := by cases args; simp_all
  obtain ⟨rfl, rfl⟩ := trodVars_none hV
  have lt0 : ∀ x ∈ p0, x.block < W.heap.size := by obtain ⟨m, hm⟩ := h0; exact DataW.trod_lt m _ _ _ hm
  have lt1 : ∀ x ∈ p1, x.block < W.heap.size := by obtain ⟨m, hm⟩ := h1; exact DataW.trod_lt m _ _ _ hm
  have lt2 : ∀ x ∈ p2, x.block < W.heap.size := by obtain ⟨m, hm⟩ := h2; exact DataW.trod_lt m _ _ _ hm
  obtain ⟨cs0, rfl⟩ : ∃ cs, v0 = .agg cs := by
    have h := hval 0 _ _ rfl rfl
    simp only [Value.okWide, Tryz.underlying25] at h
    obtain ⟨cs, h, _⟩ := h
    exact ⟨cs, h⟩
  obtain ⟨z1, rfl, rfl, rfl, wz1⟩ := open_int Tryz.underlying3 (hval 1 _ _ rfl rfl) h1
  obtain ⟨c2, len2, cap2, rfl⟩ := okWide_slice Tryz.underlying26 (hval 2 _ _ rfl rfl)
  obtain ⟨a0, b0, w0⟩ := rd_agg rdStruct h0
  obtain ⟨a2, b2, w2⟩ := rd_cell rdRats rfl h2
  have w2 := w2 _ rfl
  clear hA0 hval0
  refine (calls_true (P := Tryz.prog) (W := W) (vs := [.agg cs0, .int .i64 z1, .slice c2 len2 cap2]) (args := [structV a0, .lit (.int .i64 z1), sl ratRow a2]) ⟨rfl, fun i v a hv ha => ?_⟩ (fun e σ K h => lawStretchOf_ok a0 z1 a2 b0 b2 e σ K h)).mono fun e W' ⟨he, bel⟩ => ?_
  · match i, hv, ha with
    | 0, hv, ha => cases hv; cases ha; exact w0
    | 1, hv, ha => cases hv; cases ha; exact .lit
    | 2, hv, ha => cases hv; cases ha; exact w2
    | i + 3, hv, ha => simp at hv
  subst he
  exact ⟨_, rfl, _, _, _, [], _, [], hW', trodAll_mk1 (shut_bool Tryz.underlying4 _), (trodAll_cons_mk (Below.trod stretchOfLaid (by kernel_rfl) (of_decide_eq_true (by kernel_rfl)) h0 bel lt0) (trodAll_cons_mk (Below.trod stretchOfLaid (by kernel_rfl) (of_decide_eq_true (by kernel_rfl)) h1 bel lt1) (trodAll_cons_mk (Below.trod stretchOfLaid (by kernel_rfl) (of_decide_eq_true (by kernel_rfl)) h2 bel lt2) trodAll_mk0))), rfl, bel.frame _, fun h => by cases h⟩

theorem stretchOfOver : Rows.fnExactStretchOfRow.holds Tryz.pinned (OpenSpec.ofChange Rows.fnExactStretchOfSpec) :=
  OpenClaim.holds_of_wide 9 Tryz.f9 rfl rfl rfl rfl rfl rfl rfl ⟨rfl, rfl, rfl, rfl, rfl⟩ rfl rfl rfl rfl rfl (by kernel_rfl) Tryz.func9 (by kernel_rfl)
    (of_decide_eq_true (by kernel_rfl)) (by unfold Func.isWrapper; first | (rw [if_pos (by decide +kernel)]; kernel_rfl) | (rw [if_neg (by decide +kernel)]; exact ⟨rfl, rfl⟩))
    (fun os started H enc _ => stretchOfLifted os started H enc)

/-- The given statement. -/
theorem stretchOfHolds : Rows.FnExactStretchOfSaid := stretchOfOver
#print axioms stretchOfHolds
end Go.Proofs.YtanoekhdoelkbaaGreat
