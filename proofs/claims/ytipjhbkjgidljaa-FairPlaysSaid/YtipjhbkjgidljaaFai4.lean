/- Contracts of package fair: Clone, New, Take. -/
import Derived.Test.YtipjhbkjgidljaaFai3
namespace Go.Proofs.Ytipjhbkjgidljaa
open Go Go.RowKit E
attribute [local irreducible] E.W E.WL E.thn E.inB E.post E.QL E.bt ByteArray.extract E.RG E.RK
set_option linter.unusedVariables false
abbrev encN : Int → List Value := fun a => [.int .i64 a]
theorem cloneS_c {p : Option Addr} {n c : Nat} {xs : List ByteArray} (w0 : World) (hs : SlR 1 encS w0 p n xs) (hn : n ≤ 1000) : Ret Try.prog 53 [.slice p n c] w0 fun v w' => ∃ p' c' Q', v = .slice p' n c' ∧ Own 1 encS 9 p' c' Q' xs ∧ Hp w0 [] w' Q' := by
  have ln := hs.len
  refine enterR Try.func53 rfl Try.ntmps53 rfl ?_
  have hp := Hp.start w0
  cases p with
  | none =>
    have h0 : xs = [] := by
      cases xs with
      | nil => rfl
      | cons x xs => obtain ⟨a, h, _⟩ := hs.get 0 x rfl; cases h
    subst h0
    simp at ln; subst ln
    repeat' (first | (refine st1 ?_) | (refine st2 ?_ ?_) | (clear hp; (try clear w); intro (w : World) (hp : Hp _ _ _ _)) | (clear hp; (try clear w); intro (gn : Nat) (w : World) (hp : Hp _ _ _ _)) | (intro h; (try (exfalso; omega))))
    exact r_t rfl rfl ⟨_, rfl, none, 0, [], rfl, Own.nil, hp⟩
  | some a =>
    repeat' (first | ((with_reducible refine g_call ?_); apply o_appN [] n hp (Own.nil (R := ByteArray) (m := 1) (enc := encS)) (hs.hp hp); infer_instance; infer_instance; infer_instance; infer_instance; rfl; (first | omega | (focus (simp only [IntKind.bits]; omega)) | (focus (simp; done)) | (focus (simp; omega))); rfl; rfl; rfl; (intros; rfl); (intros; rfl); ((intro r _ v hv; simp only [List.mem_cons, List.not_mem_nil, or_false] at hv; rcases hv with rfl | rfl | rfl | rfl | rfl | rfl | rfl | rfl | rfl | rfl <;> rfl)); (first | omega | (focus (simp only [IntKind.bits]; omega)) | (focus (simp; done)) | (focus (simp; omega))); (first | omega | (focus (simp only [IntKind.bits]; omega)) | (focus (simp; done)) | (focus (simp; omega))); rfl; clear hp; (try clear w); intro p' c' Q' w hown hp) | (refine st1 ?_) | (refine st2 ?_ ?_) | (clear hp; (try clear w); intro (w : World) (hp : Hp _ _ _ _)) | (clear hp; (try clear w); intro (gn : Nat) (w : World) (hp : Hp _ _ _ _)) | (intro h; (try (exfalso; omega))))
    exact r_t rfl rfl ⟨_, rfl, p', c', Q', rfl, by simpa using hown, by simpa using hp⟩
theorem cloneN_c {p : Option Addr} {n c N : Nat} {xs : List ByteArray} (w0 : World) (hs : SlR 1 encS w0 p n xs) (hn : n ≤ 1000) (hN : n = N) : Ret Try.prog 53 [.slice p n c] w0 fun v w' => ∃ p' c' Q', v = .slice p' N c' ∧ Own 1 encS 9 p' c' Q' xs ∧ Hp w0 [] w' Q' := by
  subst hN; exact cloneS_c w0 hs hn
def fnE (ws : List Int) (qu : Int) : Int := if 1 ≤ ws.length ∧ ws.length ≤ 8 then (if ws.all (fun w => decide (1 ≤ w ∧ w ≤ 100)) then (if 1 ≤ qu ∧ qu ≤ 1500 then 0 else 1) else 10) else 2
theorem fnE_len {ws : List Int} {qu : Int} (h : ¬ (1 ≤ ws.length ∧ ws.length ≤ 8)) : fnE ws qu = 2 := by unfold fnE; rw [if_neg h]
theorem fnE_bad {ws : List Int} {qu x : Int} {i : Nat} (h : 1 ≤ ws.length ∧ ws.length ≤ 8) (hx : ws[i]? = some x) (hb : ¬ (1 ≤ x ∧ x ≤ 100)) : fnE ws qu = 10 := by
  unfold fnE
  rw [if_pos h, if_neg]
  intro ha
  have := List.all_eq_true.1 ha x (List.mem_of_getElem? hx)
  exact hb (of_decide_eq_true this)
theorem fnE_end {ws : List Int} {qu : Int} (h : 1 ≤ ws.length ∧ ws.length ≤ 8) (ha : ∀ w ∈ ws, 1 ≤ w ∧ w ≤ 100) : fnE ws qu = if 1 ≤ qu ∧ qu ≤ 1500 then 0 else 1 := by
  unfold fnE
  rw [if_pos h, if_pos]
  exact List.all_eq_true.2 fun x hx => decide_eq_true (ha x hx)
abbrev PR.new (w : Int) : PR := ⟨w, 0, none, 0, [], []⟩
theorem New_c {p : Option Addr} {n c : Nat} {ws : List Int} {qu : Int} (w0 : World) (hs : SlR 1 encN w0 p n ws) : Ret Try.prog 30 [.slice p n c, .int .i64 qu] w0 fun v w' => (fnE ws qu ≠ 0 ∧ v = .tuple #[.pointer none, .int .i64 (fnE ws qu)] ∧ Below w0.heap.size w0 w') ∨ (fnE ws qu = 0 ∧ ∃ gq ga ca pad rows, v = .tuple #[.pointer (some ⟨gq, 0, none⟩), .int .i64 0] ∧ rows.map PR.abs = ws.map (fun w => ⟨w, 0, []⟩) ∧ RowsOk rows ∧ Hp w0 [] w' (FL gq ga ca qu 0 false pad rows)) := by
  have ln := hs.len
  refine enterR Try.func30 rfl Try.ntmps30 rfl ?_
  have hp := Hp.start w0
  by_cases hl : 1 ≤ n ∧ n ≤ 8
  · repeat' (first | (refine W_loopS (σ := Nat × Option Addr × Nat × Mem) [4, 5, 8, 22, 23, 24, 25, 26, 27, 28, 29, 30, 31, 32, 33, 34, 35, 36, 37, 38, 39, 40, 41, 42, 43] (fun s => [(22, .int .i64 (s.1 : Int))]) (fun s => (gn, C 87 [.slice s.2.1 s.1 s.2.2.1, .int .i64 qu, .int .i64 0, .bool false]) :: (s.2.2.2 ++ [])) (fun s => (s.1 ≤ n ∧ ∀ w ∈ ws.take s.1, 1 ≤ w ∧ w ≤ 100) ∧ Own 3 PR.enc 89 s.2.1 s.2.2.1 s.2.2.2 ((ws.take s.1).map PR.new)) (fun s => n - s.1) (0, none, 0, []) ⟨rfl, trivial⟩ hp ⟨⟨by dsimp only; omega, by simp⟩, Own.nil⟩ ?_; clear hp; rintro ⟨i, pa, ca, QA⟩ g2 w hp ⟨⟨hi, he⟩, hown⟩; dsimp only at hi he hown hp ⊢; rcases Nat.lt_or_ge i n with hin | hin; obtain ⟨x, hx⟩ : ∃ z, ws[i]? = some z := ⟨_, List.getElem?_eq_getElem (by omega)⟩) | ((with_reducible refine g_ia ?_); apply o_iaRk hs; infer_instance; infer_instance; rfl; rfl; (first | omega | (focus (simp only [IntKind.bits]; omega)) | (focus (simp; done)) | (focus (simp; omega))); exact hx; rfl; intro adr hat) | ((with_reducible refine g_call ?_); apply o_appN [_, _] (i + 1) hp hown (SlR.blk (rs := [PR.new x]) hp (lk 0 rfl) rfl (by intros; rfl)); infer_instance; infer_instance; infer_instance; infer_instance; rfl; (first | omega | (focus (simp only [IntKind.bits]; omega)) | (focus (simp; done)) | (focus (simp; omega))); rfl; rfl; rfl; (intros; rfl); (intros; rfl); ((intro r _ v hv; simp only [List.mem_cons, List.not_mem_nil, or_false] at hv; rcases hv with rfl | rfl | rfl | rfl | rfl | rfl | rfl | rfl | rfl | rfl <;> rfl)); (first | omega | (focus (simp only [IntKind.bits]; omega)) | (focus (simp; done)) | (focus (simp; omega))); (first | omega | (focus (simp only [IntKind.bits]; omega)) | (focus (simp; done)) | (focus (simp; omega))); rfl; clear hp; (try clear w); intro p' c' Q' w hown hp) | (refine st1 ?_) | (refine st2 ?_ ?_) | (clear hp; (try clear w); intro (w : World) (hp : Hp _ _ _ _)) | (clear hp; (try clear w); intro (gn : Nat) (w : World) (hp : Hp _ _ _ _)) | (intro h; (try (exfalso; omega))))
    all_goals first
      | (have hb := fnE_bad (qu := qu) (by omega) hx (by omega)
         exact r_tt rfl rfl rfl ⟨_, rfl, .inl ⟨by rw [hb]; decide, by rw [hb]; rfl, hp.below⟩⟩)
      | (refine ⟨(i + 1, p', c', Q'), ⟨(by (repeat (first | exact agree_base rfl | (with_reducible exact agree_refl) | (exact agree_eq (by assumption)) | (refine agree_upd rfl ?_) | (refine agree_baseT rfl rfl ?_)))), ⟨rfl, trivial⟩, hp.sub (List.Sublist.cons _ (List.Sublist.refl _)), ⟨⟨by dsimp only; omega, ?_⟩, ?_⟩⟩, by dsimp only; omega⟩
         · intro y hy
           dsimp only at hy
           rw [List.take_add_one, hx] at hy
           simp at hy
           rcases hy with hy | rfl
           · exact he y hy
           · omega
         · dsimp only; rw [List.take_add_one, hx]; simpa using hown)
      | (have hb := fnE_end (qu := qu) (ws := ws) (by omega) (by rw [List.take_of_length_le (by omega)] at he; exact he)
         rw [if_neg (by omega)] at hb
         exact r_tt rfl rfl rfl ⟨_, rfl, .inl ⟨by rw [hb]; decide, by rw [hb]; rfl, hp.below⟩⟩)
      | (have hb := fnE_end (qu := qu) (ws := ws) (by omega) (by rw [List.take_of_length_le (by omega)] at he; exact he)
         rw [if_pos (by omega)] at hb
         obtain rfl : i = n := by omega
         rw [List.take_of_length_le (by omega)] at hown
         obtain ⟨ga, pad, rfl, rfl, _, _⟩ := hown.inv (i := 0) (by simp; omega)
         refine r_tt rfl rfl rfl ⟨_, rfl, .inr ⟨hb, gn, ga, ca, pad, ws.map PR.new, rfl, by simp, ?_, ?_⟩⟩
         · intro r hr
           obtain ⟨w, _, rfl⟩ := List.mem_map.1 hr
           exact Own.nil
         · have e : (((ws.map PR.new).map PR.Q).flatten) = [] := by simp
           show Hp w0 [] w (_ :: _ :: _)
           rw [e, List.length_map, ← ln]
           exact hp)
  · have hb := fnE_len (qu := qu) (ws := ws) (by omega)
    repeat' (first | (refine st1 ?_) | (refine st2 ?_ ?_) | (clear hp; (try clear w); intro (w : World) (hp : Hp _ _ _ _)) | (clear hp; (try clear w); intro (gn : Nat) (w : World) (hp : Hp _ _ _ _)) | (intro h; (try (exfalso; omega))))
    all_goals exact r_tt rfl rfl rfl ⟨_, rfl, .inl ⟨by rw [hb]; decide, by rw [hb]; rfl, hp.below⟩⟩
end Go.Proofs.Ytipjhbkjgidljaa
