/- The law FairPlays, whole: it returns true, whatever the weights, the quantum, the queues and the texts; nothing that was there before is changed. -/
import Derived.Test.YtipjhbkjgidljaaFai13
namespace Go.Proofs.Ytipjhbkjgidljaa
open Go Go.RowKit E
attribute [local irreducible] E.W E.WL E.thn E.inB E.post E.QL E.bt ByteArray.extract E.RG E.RK
set_option linter.unusedVariables false
theorem inB_c (a b c : Int) (w0 : World) : Ret Try.prog 12 [.int .i64 a, .int .i64 b, .int .i64 c] w0 fun v w' => v = .bool (decide (b ≤ a ∧ a ≤ c)) ∧ Below w0.heap.size w0 w' := by
  refine enterR Try.func12 rfl Try.ntmps12 rfl ?_
  have hp := Hp.start w0
  repeat' (first | (refine st1 ?_) | (refine st2 ?_ ?_) | (clear hp; (try clear w); intro (w : World) (hp : Hp _ _ _ _)) | (clear hp; (try clear w); intro (gn : Nat) (w : World) (hp : Hp _ _ _ _)) | (intro h; (try (exfalso; omega))))
  all_goals (refine r_t rfl rfl ⟨_, rfl, ?_, hp.below⟩; refine vb ?_; simp; omega)
set_option maxRecDepth 100000 in
set_option maxHeartbeats 2000000 in
theorem plays_ws {w0 w : World} {f : Fr} {Q : Exit → Fr → World → Prop} {n cW : Nat} {pW : Option Addr} {ws : List Int} {c : Code} {L : Mem} (hc : bk Try.f6 0 = some c) (hf : Fits f [(0, .slice pW n cW), (11, .int .i64 0), (12, .int .i64 0)]) (hW : SlR 1 encN w0 pW n ws) (hn : n ≤ 8) (hp : Hp w0 [] w L)
    (hN : ∀ g w' e, Hp w0 [] w' L → ((e = 0 ∧ ∀ x ∈ ws, 1 ≤ x ∧ x ≤ 100) ∨ (e = 10 ∧ ∃ (j : Nat) (x : Int), ws[j]? = some x ∧ ¬ (1 ≤ x ∧ x ≤ 100))) → Q .normal (updAll [(11, .int .i64 e)] (over [11, 12, 38, 39, 40, 41, 42, 43, 44, 45, 46, 47, 48, 49, 50, 51, 52, 53] f g)) w') : E.W Try.prog Try.f6.ntmps (.block 0 c) Q f w := by
  have lW := hW.len
  refine W_piece hc rfl hf ?_; intro hfe
  refine W_loopS (σ := Nat × Int) [11, 12, 38, 39, 40, 41, 42, 43, 44, 45, 46, 47, 48, 49, 50, 51, 52, 53] (fun s => [(12, .int .i64 (s.1 : Int)), (11, .int .i64 s.2)]) (fun _ => L) (fun s => (s.2 = 0 ∧ s.1 ≤ n ∧ ∀ x ∈ ws.take s.1, 1 ≤ x ∧ x ≤ 100) ∨ (s.2 = 10 ∧ s.1 ≤ n + 1 ∧ ∃ (j : Nat) (x : Int), ws[j]? = some x ∧ ¬ (1 ≤ x ∧ x ≤ 100))) (fun s => n + 1 - s.1) (0, 0) ⟨rfl, rfl, trivial⟩ hp (.inl ⟨rfl, Nat.zero_le _, by simp⟩) ?_
  clear hp
  rintro ⟨i, e⟩ gr w hp hI
  (try dsimp only at hI hp ⊢)
  rcases hI with ⟨rfl, hi, hal⟩ | ⟨rfl, hi, hbad⟩
  · by_cases hin : i < n
    · obtain ⟨x, hx⟩ : ∃ z, ws[i]? = some z := ⟨_, List.getElem?_eq_getElem (by omega)⟩
      repeat' (first | ((with_reducible refine g_ia ?_); apply o_iaRk hW; infer_instance; infer_instance; rfl; rfl; (first | omega | (focus (simp only [IntKind.bits]; omega)) | (focus (simp; done)) | (focus (simp; omega))); exact hx; rfl; intro adr hat) | ((with_reducible refine g_call ?_); refine o_callF hp (inB_c _ _ _ _) rfl rfl ?_) | (refine st1 ?_) | (refine st2 ?_ ?_) | (clear hp; (try clear w); intro (w : World) (hp : Hp _ _ _ _)) | (clear hp; (try clear w); intro (gn : Nat) (w : World) (hp : Hp _ _ _ _)) | (intro h; (try (exfalso; omega))))
      all_goals first
        | exact ⟨(i + 1, 10), ⟨(by (repeat (first | exact agree_base rfl | (with_reducible exact agree_refl) | (exact agree_eq (by assumption)) | (refine agree_upd rfl ?_) | (refine agree_baseT rfl rfl ?_)))), ⟨rfl, rfl, trivial⟩, hp, .inr ⟨rfl, by dsimp only; omega, i, x, hx, by omega⟩⟩, by dsimp only; omega⟩
        | (refine ⟨(i + 1, 0), ⟨(by (repeat (first | exact agree_base rfl | (with_reducible exact agree_refl) | (exact agree_eq (by assumption)) | (refine agree_upd rfl ?_) | (refine agree_baseT rfl rfl ?_)))), ⟨rfl, rfl, trivial⟩, hp, .inl ⟨rfl, by dsimp only; omega, ?_⟩⟩, by dsimp only; omega⟩
           intro y hy
           dsimp only at hy
           rw [List.take_add_one, hx] at hy
           simp at hy
           rcases hy with hy | rfl
           · exact hal y hy
           · omega)
    · rw [List.take_of_length_le (by omega)] at hal
      repeat' (first | (refine st1 ?_) | (refine st2 ?_ ?_) | (clear hp; (try clear w); intro (w : World) (hp : Hp _ _ _ _)) | (clear hp; (try clear w); intro (gn : Nat) (w : World) (hp : Hp _ _ _ _)) | (intro h; (try (exfalso; omega))))
      all_goals exact leave (fun g => hN g w 0 hp (.inl ⟨rfl, hal⟩)) (by (repeat (first | exact agree_base rfl | (with_reducible exact agree_refl) | (exact agree_eq (by assumption)) | (refine agree_upd rfl ?_) | (refine agree_baseT rfl rfl ?_)))) ⟨rfl, trivial⟩
  · repeat' (first | (refine st1 ?_) | (refine st2 ?_ ?_) | (clear hp; (try clear w); intro (w : World) (hp : Hp _ _ _ _)) | (clear hp; (try clear w); intro (gn : Nat) (w : World) (hp : Hp _ _ _ _)) | (intro h; (try (exfalso; omega))))
    all_goals exact leave (fun g => hN g w 10 hp (.inr ⟨rfl, hbad⟩)) (by (repeat (first | exact agree_base rfl | (with_reducible exact agree_refl) | (exact agree_eq (by assumption)) | (refine agree_upd rfl ?_) | (refine agree_baseT rfl rfl ?_)))) ⟨rfl, trivial⟩
set_option maxRecDepth 100000 in
set_option maxHeartbeats 2000000 in
theorem plays_law {n cW n2 c2 n3 c3 : Nat} {pW p2 p3 : Option Addr} {qu : Int} {ws ks_ : List Int} {ts : List ByteArray} (w0 : World) (hW : SlR 1 encN w0 pW n ws) (h2 : SlR 1 encN w0 p2 n2 ks_) (h3 : SlR 1 encS w0 p3 n3 ts) : Ret Try.prog 6 [.slice pW n cW, .int .i64 qu, .slice p2 n2 c2, .slice p3 n3 c3] w0 fun v w' => v = .bool true ∧ Below w0.heap.size w0 w' := by
  have lW := hW.len
  refine enterR Try.func6 rfl Try.ntmps6 rfl ?_
  have hp := Hp.start w0
  by_cases hl : 1 ≤ n ∧ n ≤ 8
  · repeat' (first | (refine plays_tail rfl ⟨rfl, rfl, rfl, rfl, rfl, (by first | rfl | (rw [he]; rfl)), (by first | rfl | (rw [he]; rfl)), trivial⟩ hW h2 h3 hp hq) | (refine plays_ws rfl ⟨rfl, rfl, rfl, trivial⟩ hW (by omega) hp ?_; clear hp; intro gr w e hp hI; rcases hI with ⟨rfl, hal⟩ | ⟨rfl, j, x, hx, hb⟩; rotate_left; (have he := fnE_bad (qu := qu) (by omega) hx hb); rotate_left; (have he := fnE_end (qu := qu) (ws := ws) (by omega) hal); (by_cases hqu : 1 ≤ qu ∧ qu ≤ 1500); (rw [if_pos hqu] at he); rotate_left; (rw [if_neg hqu] at he); rotate_left) | ((with_reducible refine g_call ?_); refine o_callF hp (fairFact_c _) rfl rfl ?_) | (((with_reducible refine g_call ?_); refine o_call (New_c (qu := qu) _ (hW.hp hp)) rfl rfl ?_); rintro v w hv; have hq : ∃ q L, v = .tuple #[.pointer q, .int .i64 (fnE ws qu)] ∧ Hp w0 [] w L ∧ ((fnE ws qu ≠ 0 ∧ q = none ∧ L = []) ∨ (fnE ws qu = 0 ∧ ∃ gq ga ca pad rows, q = some ⟨gq, 0, none⟩ ∧ rows.map PR.abs = ws.map (fun w => ⟨w, 0, []⟩) ∧ RowsOk rows ∧ L = FL gq ga ca qu 0 false pad rows ++ [])) := (by rcases hv with ⟨h1, rfl, hb⟩ | ⟨h1, gq, ga, ca, pad, rows, rfl, h2, h3, h4⟩; exact ⟨none, [], rfl, hp.step hb, .inl ⟨h1, rfl, rfl⟩⟩; exact ⟨_, _, by rw [h1], hp.fresh h4, .inr ⟨h1, gq, ga, ca, pad, rows, rfl, h2, h3, rfl⟩⟩); clear hv; obtain ⟨q, LL, rfl, hp2, hq⟩ := hq; clear hp; have hp := hp2; clear hp2) | ((with_reducible refine g_call ?_); refine o_callF hp (inB_c _ _ _ _) rfl rfl ?_) | (refine st1 ?_) | (refine st2 ?_ ?_) | (clear hp; (try clear w); intro (w : World) (hp : Hp _ _ _ _)) | (clear hp; (try clear w); intro (gn : Nat) (w : World) (hp : Hp _ _ _ _)) | (intro h; (try (exfalso; omega))))
  · have he := fnE_len (qu := qu) (ws := ws) (by omega)
    repeat' (first | (refine plays_tail rfl ⟨rfl, rfl, rfl, rfl, rfl, (by first | rfl | (rw [he]; rfl)), (by first | rfl | (rw [he]; rfl)), trivial⟩ hW h2 h3 hp hq) | ((with_reducible refine gW ?_); refine W_loop (fun f' w' => f' = _ ∧ w' = _) (fun _ _ => 0) ⟨rfl, rfl⟩ ?_; rintro _ _ ⟨rfl, rfl⟩) | ((with_reducible refine g_call ?_); refine o_callF hp (fairFact_c _) rfl rfl ?_) | (((with_reducible refine g_call ?_); refine o_call (New_c (qu := qu) _ (hW.hp hp)) rfl rfl ?_); rintro v w hv; have hq : ∃ q L, v = .tuple #[.pointer q, .int .i64 (fnE ws qu)] ∧ Hp w0 [] w L ∧ ((fnE ws qu ≠ 0 ∧ q = none ∧ L = []) ∨ (fnE ws qu = 0 ∧ ∃ gq ga ca pad rows, q = some ⟨gq, 0, none⟩ ∧ rows.map PR.abs = ws.map (fun w => ⟨w, 0, []⟩) ∧ RowsOk rows ∧ L = FL gq ga ca qu 0 false pad rows ++ [])) := (by rcases hv with ⟨h1, rfl, hb⟩ | ⟨h1, gq, ga, ca, pad, rows, rfl, h2, h3, h4⟩; exact ⟨none, [], rfl, hp.step hb, .inl ⟨h1, rfl, rfl⟩⟩; exact ⟨_, _, by rw [h1], hp.fresh h4, .inr ⟨h1, gq, ga, ca, pad, rows, rfl, h2, h3, rfl⟩⟩); clear hv; obtain ⟨q, LL, rfl, hp2, hq⟩ := hq; clear hp; have hp := hp2; clear hp2) | ((with_reducible refine g_call ?_); refine o_callF hp (inB_c _ _ _ _) rfl rfl ?_) | (refine st1 ?_) | (refine st2 ?_ ?_) | (clear hp; (try clear w); intro (w : World) (hp : Hp _ _ _ _)) | (clear hp; (try clear w); intro (gn : Nat) (w : World) (hp : Hp _ _ _ _)) | (intro h; (try (exfalso; omega))))
abbrev OkAnyF (_ : Int) : Prop := True
abbrev OkAnyS (_ : ByteArray) : Prop := True
theorem decIntN (cs : List Value) (h : Fits2 [.int .i64] cs) : ∃ r : Int, encN r = cs ∧ True := by
  obtain ⟨_, _, rfl, ⟨a, rfl, wa⟩, rfl⟩ := h
  exact ⟨a, rfl, trivial⟩
theorem decStr (cs : List Value) (h : Fits2 [.string] cs) : ∃ r : ByteArray, encS r = cs ∧ True := by
  obtain ⟨_, _, rfl, ⟨a, rfl, wa⟩, rfl⟩ := h
  exact ⟨a, rfl, trivial⟩
end Go.Proofs.Ytipjhbkjgidljaa
