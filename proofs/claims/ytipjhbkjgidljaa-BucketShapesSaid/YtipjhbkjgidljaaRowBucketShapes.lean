/- The law BucketShapes holds for every input; nothing that was there before is changed. -/
import Derived.Test.YtipjhbkjgidljaaRows
import Derived.Test.YtipjhbkjgidljaaShp6
import Derived.Test.YtipjhbkjgidljaaErow
namespace Go.Proofs.Ytipjhbkjgidljaa.bucketShapes
open Go.ChangeShapes Go.WideShapes Go.ChangeAt Go.RowKit Go.Joins
open Go.ChangeMaps (open_string)
set_option linter.unusedVariables false
theorem own : ownKnob Try.prog.godebug = none := by kernel_rfl
theorem laidOut : laidOutB Try.prog = true := by kernel_rfl
set_option maxRecDepth 100000 in
theorem lifted (os : Os) (started : os.Started) (H : Type) (enc : TypeId × Value → H) :
    ReturnsInHanded {} Try.checked os 5 .any (Rows.bucketShapesSpec.pre6 enc Try.prog Try.f5 Rows.bucketShapesRow.domain false) (Rows.bucketShapesSpec.post enc Try.prog Try.f5 false true false false) := by
  refine returnsInHanded_of_change (C := Try.checked) own started (by kernel_rfl) Try.func5
    (ChangeSpec.witness6 (enc := enc) (C := Try.checked) false ⟨#[], #[.agg #[.int .i64 0, .int .i64 0, .int .i64 0, .int .i64 0], .slice none 0 0, .slice none 0 0], []⟩ 8 (by kernel_rfl) (by kernel_rfl) (by kernel_rfl) (by kernel_rfl)) ?_
  intro W base args ds gs before hval0 hW hcnd _
  have hval : ∀ (j : Nat) t v, Try.f5.params[j]? = some t → args[j]? = some v → Value.okWide Try.prog W .any base t v := hval0
  have hW' := hW
  obtain ⟨p, q, hA0, hV, rfl, hfz, hnd⟩ := hW
  have hA : DataW.TrodAll enc Try.prog W 0 (fun _ => true) true Try.f5.params.toList args.toList ds p := hA0
  rw [Try.params5] at hA hval
  obtain ⟨v0, vs0, d0, ds0, pl0, q0, hargs, rfl, rfl, h0, t0⟩ := trodAll_cons hA
  obtain ⟨v1, vs1, d1, ds1, pl1, q1, rfl, rfl, rfl, h1, t1⟩ := trodAll_cons t0
  obtain ⟨v2, vs2, d2, ds2, pl2, q2, rfl, rfl, rfl, h2, t2⟩ := trodAll_cons t1
  obtain ⟨rfl, rfl, rfl⟩ := trodAll_nil t2
  obtain rfl : args = #[v0, v1, v2] := by cases args; simp_all
  obtain ⟨rfl, rfl⟩ := trodVars_none hV
  have k0 := h0
  have lt0 := E.trod_lt k0
  obtain ⟨r0, rfl, o0⟩ := E.open_flat_agg (ec := BktV.enc) Try.underlying23 9 (by kernel_rfl) decBkt (hval 0 23 v0 rfl rfl) h0
  have k1 := h1
  have lt1 := E.trod_lt k1
  obtain ⟨p1, n1, c1, rs1, rfl, hs1, ok1, nc1, mx1⟩ := E.open_flat_slice (R := Int) (ec := encI) (Ok := OkAny) Try.underlying53 9 (by kernel_rfl) (by kernel_rfl) decInt (hval 1 53 v1 rfl rfl) h1
  have k2 := h2
  have lt2 := E.trod_lt k2
  obtain ⟨p2, n2, c2, rs2, rfl, hs2, ok2, nc2, mx2⟩ := E.open_flat_slice (R := Int) (ec := encI) (Ok := OkAny) Try.underlying53 9 (by kernel_rfl) (by kernel_rfl) decInt (hval 2 53 v2 rfl rfl) h2
  clear hA0 hval0
  refine (E.law_true (shapes_law W hs1 hs2 nc1 nc2)).mono fun e W' ⟨he, bel⟩ => ?_
  subst he
  exact ⟨_, rfl, _, _, _, [], _, [], hW', trodAll_mk1 (shut_bool Try.underlying4 _), (trodAll_cons_mk (Below.trod laidOut (by kernel_rfl) (of_decide_eq_true (by kernel_rfl)) k0 bel lt0) (trodAll_cons_mk (Below.trod laidOut (by kernel_rfl) (of_decide_eq_true (by kernel_rfl)) k1 bel lt1) (trodAll_cons_mk (Below.trod laidOut (by kernel_rfl) (of_decide_eq_true (by kernel_rfl)) k2 bel lt2) trodAll_mk0))), rfl, bel.frame _, fun h => by cases h⟩
theorem proved : Rows.BucketShapesSaid :=
  OpenClaim.holds_of_wide 5 Try.f5 rfl rfl rfl rfl rfl rfl rfl ⟨rfl, rfl, rfl, rfl, rfl⟩ rfl rfl rfl rfl rfl (by kernel_rfl) Try.func5 (by kernel_rfl)
    (of_decide_eq_true (by kernel_rfl)) (by unfold Func.isWrapper; first | (rw [if_pos (by decide +kernel)]; kernel_rfl) | (rw [if_neg (by decide +kernel)]; exact ⟨rfl, rfl⟩))
    (fun os started H enc _ => lifted os started H enc)
#print axioms proved
end Go.Proofs.Ytipjhbkjgidljaa.bucketShapes
