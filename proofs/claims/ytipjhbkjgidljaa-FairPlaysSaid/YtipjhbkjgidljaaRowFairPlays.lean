/- The law FairPlays holds for every input; nothing that was there before is changed. -/
import Derived.Test.YtipjhbkjgidljaaRows
import Derived.Test.YtipjhbkjgidljaaFai14
import Derived.Test.YtipjhbkjgidljaaErow
namespace Go.Proofs.Ytipjhbkjgidljaa.fairPlays
open Go.ChangeShapes Go.WideShapes Go.ChangeAt Go.RowKit Go.Joins
open Go.ChangeMaps (open_string)
set_option linter.unusedVariables false
theorem own : ownKnob Try.prog.godebug = none := by kernel_rfl
theorem laidOut : laidOutB Try.prog = true := by kernel_rfl
set_option maxRecDepth 100000 in
theorem lifted (os : Os) (started : os.Started) (H : Type) (enc : TypeId × Value → H) :
    ReturnsInHanded {} Try.checked os 6 .any (Rows.fairPlaysSpec.pre6 enc Try.prog Try.f6 Rows.fairPlaysRow.domain false) (Rows.fairPlaysSpec.post enc Try.prog Try.f6 false true false false) := by
  refine returnsInHanded_of_change (C := Try.checked) own started (by kernel_rfl) Try.func6
    (ChangeSpec.witness6 (enc := enc) (C := Try.checked) false ⟨#[], #[.slice none 0 0, .int .i64 0, .slice none 0 0, .slice none 0 0], []⟩ 8 (by kernel_rfl) (by kernel_rfl) (by kernel_rfl) (by kernel_rfl)) ?_
  intro W base args ds gs before hval0 hW hcnd _
  have hval : ∀ (j : Nat) t v, Try.f6.params[j]? = some t → args[j]? = some v → Value.okWide Try.prog W .any base t v := hval0
  have hW' := hW
  obtain ⟨p, q, hA0, hV, rfl, hfz, hnd⟩ := hW
  have hA : DataW.TrodAll enc Try.prog W 0 (fun _ => true) true Try.f6.params.toList args.toList ds p := hA0
  rw [Try.params6] at hA hval
  obtain ⟨v0, vs0, d0, ds0, pl0, q0, hargs, rfl, rfl, h0, t0⟩ := trodAll_cons hA
  obtain ⟨v1, vs1, d1, ds1, pl1, q1, rfl, rfl, rfl, h1, t1⟩ := trodAll_cons t0
  obtain ⟨v2, vs2, d2, ds2, pl2, q2, rfl, rfl, rfl, h2, t2⟩ := trodAll_cons t1
  obtain ⟨v3, vs3, d3, ds3, pl3, q3, rfl, rfl, rfl, h3, t3⟩ := trodAll_cons t2
  obtain ⟨rfl, rfl, rfl⟩ := trodAll_nil t3
  obtain rfl : args = #[v0, v1, v2, v3] := by cases args; simp_all
  obtain ⟨rfl, rfl⟩ := trodVars_none hV
  have k0 := h0
  have lt0 := E.trod_lt k0
  obtain ⟨p0, n0, c0, rs0, rfl, hs0, ok0, nc0, mx0⟩ := E.open_flat_slice (R := Int) (ec := encN) (Ok := OkAnyF) Try.underlying53 9 (by kernel_rfl) (by kernel_rfl) decIntN (hval 0 53 v0 rfl rfl) h0
  have k1 := h1
  have lt1 := E.trod_lt k1
  obtain ⟨a1, rfl, rfl, rfl, w1⟩ := open_int Try.underlying3 (hval 1 3 v1 rfl rfl) h1
  replace w1 := E.wf64 w1
  have k2 := h2
  have lt2 := E.trod_lt k2
  obtain ⟨p2, n2, c2, rs2, rfl, hs2, ok2, nc2, mx2⟩ := E.open_flat_slice (R := Int) (ec := encN) (Ok := OkAnyF) Try.underlying53 9 (by kernel_rfl) (by kernel_rfl) decIntN (hval 2 53 v2 rfl rfl) h2
  have k3 := h3
  have lt3 := E.trod_lt k3
  obtain ⟨p3, n3, c3, rs3, rfl, hs3, ok3, nc3, mx3⟩ := E.open_flat_slice (R := ByteArray) (ec := encS) (Ok := OkAnyS) Try.underlying58 9 (by kernel_rfl) (by kernel_rfl) decStr (hval 3 58 v3 rfl rfl) h3
  clear hA0 hval0
  refine (E.law_true (plays_law W hs0 hs2 hs3)).mono fun e W' ⟨he, bel⟩ => ?_
  subst he
  exact ⟨_, rfl, _, _, _, [], _, [], hW', trodAll_mk1 (shut_bool Try.underlying4 _), (trodAll_cons_mk (Below.trod laidOut (by kernel_rfl) (of_decide_eq_true (by kernel_rfl)) k0 bel lt0) (trodAll_cons_mk (Below.trod laidOut (by kernel_rfl) (of_decide_eq_true (by kernel_rfl)) k1 bel lt1) (trodAll_cons_mk (Below.trod laidOut (by kernel_rfl) (of_decide_eq_true (by kernel_rfl)) k2 bel lt2) (trodAll_cons_mk (Below.trod laidOut (by kernel_rfl) (of_decide_eq_true (by kernel_rfl)) k3 bel lt3) trodAll_mk0)))), rfl, bel.frame _, fun h => by cases h⟩
theorem proved : Rows.FairPlaysSaid :=
  OpenClaim.holds_of_wide 6 Try.f6 rfl rfl rfl rfl rfl rfl rfl ⟨rfl, rfl, rfl, rfl, rfl⟩ rfl rfl rfl rfl rfl (by kernel_rfl) Try.func6 (by kernel_rfl)
    (of_decide_eq_true (by kernel_rfl)) (by unfold Func.isWrapper; first | (rw [if_pos (by decide +kernel)]; kernel_rfl) | (rw [if_neg (by decide +kernel)]; exact ⟨rfl, rfl⟩))
    (fun os started H enc _ => lifted os started H enc)
#print axioms proved
end Go.Proofs.Ytipjhbkjgidljaa.fairPlays
