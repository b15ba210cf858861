/- The law FairPlays: its rounds. -/
import Derived.Test.YtipjhbkjgidljaaFai10
namespace Go.Proofs.Ytipjhbkjgidljaa
open Go Go.RowKit E
attribute [local irreducible] E.W E.WL E.thn E.inB E.post E.QL E.bt ByteArray.extract E.RG E.RK
set_option linter.unusedVariables false
theorem fRun_ne {qu : Int} : ∀ {n : Nat} {s : FS} {r : FS × Nat × ByteArray}, fRun qu n s = some r → ∃ x ∈ s.qs, x.ss ≠ []
  | 0, _, _, h => by cases h
  | n + 1, s, r, h => by
    unfold fRun at h
    cases hx : s.qs[s.at_]? with
    | none =>
      have e : fStep qu s = .inl s := by unfold fStep; rw [hx]
      rw [e] at h
      exact fRun_ne h
    | some x =>
      by_cases he : x.ss = []
      · have e : fStep qu s = .inl ⟨s.qs, fNext s, false⟩ := by unfold fStep; rw [hx]; simp [he]
        rw [e] at h
        exact fRun_ne (s := ⟨s.qs, fNext s, false⟩) h
      · exact ⟨x, List.mem_of_getElem? hx, he⟩
theorem FTook.ne {qu : Int} {s : FS} {r : FS × Nat × ByteArray} (h : FTook qu s r) : ∃ x ∈ s.qs, x.ss ≠ [] := by
  obtain ⟨n, h⟩ := h; exact fRun_ne h
theorem fRun_good {qu : Int} : ∀ {n : Nat} {s s' : FS} {k : Nat} {y : ByteArray}, FGood qu s → fRun qu n s = some (s', k, y) → FGood qu s' ∧ s'.qs.length = s.qs.length
  | 0, _, _, _, _, _, h => by cases h
  | n + 1, s, s', k, y, hg, h => by
    unfold fRun at h
    cases hs : fStep qu s with
    | inl s1 =>
      rw [hs] at h
      have h1 := fRun_good (hg.step hs) h
      refine ⟨h1.1, h1.2.trans ?_⟩
      unfold fStep at hs
      split at hs
      · injection hs with hs; rw [hs]
      · split at hs
        · injection hs with hs; subst hs; rfl
        · split at hs
          · injection hs with hs; subst hs; simp
          · split at hs <;> cases hs
    | inr r =>
      rw [hs] at h
      injection h with h
      subst h
      have := hg.done hs
      exact ⟨this.1, this.2.1⟩
theorem FTook.good {qu : Int} {s s' : FS} {k : Nat} {y : ByteArray} (hg : FGood qu s) (h : FTook qu s (s', k, y)) : FGood qu s' ∧ s'.qs.length = s.qs.length := by
  obtain ⟨n, h⟩ := h; exact fRun_good hg h
theorem pQ_good {qu k : Int} {s : ByteArray} {qs : List FQ} {a : Nat} {pd : Bool} (hg : FGood qu ⟨qs, a, pd⟩) (he : pE qs k s = 0) : FGood qu ⟨pQ qs k s, a, pd⟩ := by
  unfold pE at he
  split at he
  · rename_i hk
    split at he
    · omega
    · rename_i hs
      have hlt : k.toNat < qs.length := by omega
      have hx : qs[k.toNat]? = some qs[k.toNat] := List.getElem?_eq_getElem hlt
      generalize qs[k.toNat] = x at hx
      rw [hx] at he
      simp only [Option.elim_some] at he
      by_cases hl : 64 ≤ (x.ss.length : Int)
      · have h5 : (if (64 : Int) ≤ ((x.ss.length : Nat) : Int) then (5 : Int) else 0) = 5 := if_pos hl
        exact absurd (h5.symm.trans he) (by decide)
      · obtain ⟨g1, g2, g3, g4, g5⟩ := hg.q k.toNat x hx
        have e : pQ qs k s = qs.set k.toNat ⟨x.w, x.d, x.ss ++ [s]⟩ := by unfold pQ; rw [hx]
        rw [e]
        refine ⟨hg.qu, by simpa using hg.len, by simpa using hg.at_, fun i z hz => ?_, fun hp z hz => ?_⟩
        · simp only [List.getElem?_set] at hz
          split at hz
          · rename_i hi
            injection hz with hz; subst hz
            refine ⟨g1, g2, by simp; omega, fun y hy => ?_, fun h => g5 (by rw [hi]; exact h)⟩
            simp at hy
            rcases hy with hy | rfl
            · exact g4 y hy
            · omega
          · exact hg.q i z hz
        · simp only [List.getElem?_set] at hz
          split at hz
          · injection hz with hz; subst hz; simp
          · exact hg.paid hp z hz
  · omega
theorem new_good {ws : List Int} {qu : Int} (h : fnE ws qu = 0) : FGood qu ⟨ws.map (fun w => ⟨w, 0, []⟩), 0, false⟩ := by
  unfold fnE at h
  split at h
  · rename_i hl
    split at h
    · rename_i ha
      split at h
      · rename_i hq
        refine ⟨hq, by simpa using hl, by simp; omega, fun i z hz => ?_, fun hp => by cases hp⟩
        rw [List.getElem?_map] at hz
        cases hw : ws[i]? with
        | none => rw [hw] at hz; cases hz
        | some w =>
          rw [hw] at hz; injection hz with hz; subst hz
          have := of_decide_eq_true (List.all_eq_true.1 ha w (List.mem_of_getElem? hw))
          exact ⟨this, by dsimp only; omega, by simp, by simp, fun _ => by dsimp only; omega⟩
      · omega
    · omega
  · omega
theorem Hp.toEnd {w0 w : World} {x : Nat × Obj} {Q A B : Mem} (h : Hp w0 [] w (Q ++ (x :: (A ++ B)))) : Hp w0 [] w (x :: (A ++ (Q ++ B))) := by
  refine h.perm ?_
  have e1 : (x :: (A ++ (Q ++ B))) = ([x] ++ A) ++ Q ++ B := by simp
  have e2 : Q ++ (x :: (A ++ B)) = Q ++ ([x] ++ A) ++ B := by simp
  rw [e1, e2]
  exact (List.perm_append_comm (l₁ := [x] ++ A) (l₂ := Q)).append_right B
end Go.Proofs.Ytipjhbkjgidljaa
