/-
BlakeCompresses: the law answers true of every input.
Conditions: none.
-/
import Derived.Test.YtnfhngcdddjilaaRows
import Derived.Test.YtnfhngcdddjilaaPlaBlakeCompresses
import Derived.WalkKit
import Derived.ProofKit
import Derived.OpenShut
import Derived.ShutString
import Derived.ChangeOld
import Derived.Below
import Derived.SizedLaws
set_option linter.unusedVariables false
namespace Go.Proofs.Ytnfhngcdddjilaa.blakeCompresses
open Go.ChangeShapes Go.WideShapes Go.ChangeAt Go.RowKit
open Go.ChangeMaps (open_string shut_string)
open Go.Proofs.Ytnfhngcdddjilaa.Eng
theorem own : ownKnob Try.prog.godebug = none := by kernel_rfl
set_option maxRecDepth 100000 in
theorem lifted (os : Os) (started : os.Started) (H : Type) (enc : TypeId × Value → H) :
    ReturnsInHanded {} Try.checked os 3 .any (Rows.blakeCompressesSpec.pre6 enc Try.prog Try.f3 Rows.blakeCompressesRow.domain false) (Rows.blakeCompressesSpec.post enc Try.prog Try.f3 false true false false) := by
  refine returnsInHanded_of_change_sized (C := Try.checked) own started (by kernel_rfl) Try.func3
    (ChangeSpec.witness6 (enc := enc) (C := Try.checked) false ⟨#[], #[(.agg #[.int .u64 0, .int .u64 0, .int .u64 0, .int .u64 0, .int .u64 0, .int .u64 0, .int .u64 0, .int .u64 0]), .slice none 0 0, .int .u64 0, .bool false], []⟩ 8 (by kernel_rfl) (by kernel_rfl) (by kernel_rfl) (by kernel_rfl)) ?_
  intro W base args ds gs before hval0 hW hcnd hsz0 _
  have hval : ∀ (j : Nat) t v, Try.f3.params[j]? = some t → args[j]? = some v → Value.okWide Try.prog W .any base t v := hval0
  have hW' := hW
  obtain ⟨p, q, hA0, hV, rfl, hfz, hnd⟩ := hW
  have hA : DataW.TrodAll enc Try.prog W 0 (fun _ => true) true Try.f3.params.toList args.toList ds p := hA0
  rw [Try.params3] at hA hval
  obtain ⟨v0, vs0, d0, ds0, p0, q0, hargs, rfl, rfl, h0, r0⟩ := trodAll_cons hA
  obtain ⟨v1, vs1, d1, ds1, p1, q1, rfl, rfl, rfl, h1, r1⟩ := trodAll_cons r0
  obtain ⟨v2, vs2, d2, ds2, p2, q2, rfl, rfl, rfl, h2, r2⟩ := trodAll_cons r1
  obtain ⟨v3, vs3, d3, ds3, p3, q3, rfl, rfl, rfl, h3, r3⟩ := trodAll_cons r2
  obtain ⟨rfl, rfl, rfl⟩ := trodAll_nil r3
  obtain rfl : args = #[v0, v1, v2, v3] := by cases args; simp_all
  obtain ⟨rfl, rfl⟩ := trodVars_none hV
  obtain ⟨y0, hv0, wf0⟩ := open_av tyok (s := .arr 8 (.int .u64)) (σ := fun _ => none) (by kernel_rfl) rfl (hval 0 23 v0 rfl rfl) h0
  obtain ⟨y1, hv1, wf1⟩ := open_av tyok (s := .sl (.int .u8)) (σ := fun _ => none) (by kernel_rfl) rfl (hval 1 24 v1 rfl rfl) h1
  obtain ⟨y2, hv2, wf2⟩ := open_av tyok (s := .int .u64) (σ := fun _ => none) (by kernel_rfl) rfl (hval 2 22 v2 rfl rfl) h2
  obtain ⟨y3, hv3, wf3⟩ := open_av tyok (s := .bool) (σ := fun _ => none) (by kernel_rfl) rfl (hval 3 4 v3 rfl rfl) h3
  obtain ⟨H', hc⟩ := law_all y0 wf0 y1 wf1 y2 wf2 y3 wf3
  refine (law_calls hc (cargs := [v0, v1, v2, v3]) ⟨hv0, hv1, hv2, hv3, trivial⟩).mono fun e W' ⟨he, bel⟩ => ?_
  subst he
  exact ⟨_, rfl, _, _, _, [], _, [], hW', trodAll_mk1 (shut_bool Try.underlying4 _), (trodAll_cons_mk (laws_trod (by kernel_rfl) (by kernel_rfl) (of_decide_eq_true (by kernel_rfl)) h0 bel) (trodAll_cons_mk (laws_trod (by kernel_rfl) (by kernel_rfl) (of_decide_eq_true (by kernel_rfl)) h1 bel) (trodAll_cons_mk (laws_trod (by kernel_rfl) (by kernel_rfl) (of_decide_eq_true (by kernel_rfl)) h2 bel) (trodAll_cons_mk (laws_trod (by kernel_rfl) (by kernel_rfl) (of_decide_eq_true (by kernel_rfl)) h3 bel) trodAll_mk0)))), rfl, bel.frame _, fun h => by cases h⟩
theorem over : Rows.blakeCompressesRow.holds Try.pinned (OpenSpec.ofChange Rows.blakeCompressesSpec) :=
  OpenClaim.holds_of_wide 3 Try.f3 rfl rfl rfl rfl rfl rfl rfl ⟨rfl, rfl, rfl, rfl, rfl⟩ rfl rfl rfl rfl rfl (by kernel_rfl) Try.func3 (by kernel_rfl)
    (of_decide_eq_true (by kernel_rfl)) (by unfold Func.isWrapper; first | (rw [if_pos (by decide +kernel)]; kernel_rfl) | (rw [if_neg (by decide +kernel)]; exact ⟨rfl, rfl⟩))
    (fun os started H enc _ => lifted os started H enc)
theorem proved : Rows.BlakeCompressesSaid := over
#print axioms proved
end Go.Proofs.Ytnfhngcdddjilaa.blakeCompresses
namespace Go.Proofs.Ytnfhngcdddjilaa
/-- The row, under a short name, for the claim. -/
theorem blakeCompresses_holds : Rows.BlakeCompressesSaid := blakeCompresses.proved
end Go.Proofs.Ytnfhngcdddjilaa
