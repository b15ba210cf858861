/- The law FairPlays: it returns true, whatever the weights, the quantum, the queues and the texts; nothing that was there before is changed. -/
import Derived.Test.YtipjhbkjgidljaaFai12
namespace Go.Proofs.Ytipjhbkjgidljaa
open Go Go.RowKit E
attribute [local irreducible] E.W E.WL E.thn E.inB E.post E.QL E.bt ByteArray.extract E.RG E.RK
set_option linter.unusedVariables false
set_option maxRecDepth 100000 in
theorem plays_loop {w0 w : World} {f : Fr} {Q : Exit → Fr → World → Prop} {gq ga ca gr n cW cD cL a n2 c2 n3 c3 : Nat} {pW pD pL p2 p3 : Option Addr} {qu : Int} {pd : Bool} {pad : List Value} {ws ks_ : List Int} {ts : List ByteArray} {rows rs : List PR} {QF : Mem} {c : Code} (hc : bk Try.f6 2 = some c) (hf : Fits f [(0, .slice pW n cW), (2, .slice p2 n2 c2), (3, .slice p3 n3 c3), (9, .pointer (some ⟨gq, 0, none⟩)), (13, .pointer (some ⟨gr, 0, none⟩)), (14, .int .i64 0)]) (hQn : NoP Q) (hW : SlR 1 encN w0 pW n ws) (h2 : SlR 1 encN w0 p2 n2 ks_) (h3 : SlR 1 encS w0 p3 n3 ts) (hI : FInv qu pW n a pd ws rows rs pD pL QF) (hp : Hp w0 [] w ((gr, C 64 (FV pW n cW qu a pd pD n cD pL n cL)) :: (FL gq ga ca qu a pd pad rows ++ QF)))
    (hN : ∀ g L w', Hp w0 [] w' L → Q .normal (updAll [] (over [8, 14, 15, 16, 17, 18, 19, 20, 21, 22, 23, 24, 25, 79, 80, 81, 82, 83, 84, 85, 86, 87, 88, 89, 90, 91, 92, 93, 94, 95, 96, 97, 98, 99, 100, 101, 102, 103, 104, 105, 106, 107, 108, 109, 110, 111, 112, 113, 114, 115, 116, 117, 118, 119, 120, 121, 122, 123, 124, 125, 126, 127, 128, 129, 130, 131, 132, 133, 134, 135, 136, 137, 138, 139, 140, 141, 142, 143, 144, 145, 146, 147, 148, 149, 150, 151, 152, 153, 154, 155, 156, 157, 158, 159, 160, 161, 162, 163, 164, 165, 166, 167, 168, 169, 170, 171, 172, 173, 174, 175, 176, 177, 178, 179, 180, 181, 182, 183, 184, 185, 186, 187, 188, 189, 190, 191, 192, 193, 194, 195, 196, 197, 198, 199, 200, 201] f g)) w') : E.W Try.prog Try.f6.ntmps (.block 2 c) Q f w := by
  have l2 := h2.len
  have l3 := h3.len
  refine W_piece hc rfl hf ?_; intro hfe
  refine W_loopS (σ := (Nat × Nat × Bool) × (List PR × List PR) × (Option Addr × Nat × Option Addr × Nat) × Mem) [8, 14, 15, 16, 17, 18, 19, 20, 21, 22, 23, 24, 25, 79, 80, 81, 82, 83, 84, 85, 86, 87, 88, 89, 90, 91, 92, 93, 94, 95, 96, 97, 98, 99, 100, 101, 102, 103, 104, 105, 106, 107, 108, 109, 110, 111, 112, 113, 114, 115, 116, 117, 118, 119, 120, 121, 122, 123, 124, 125, 126, 127, 128, 129, 130, 131, 132, 133, 134, 135, 136, 137, 138, 139, 140, 141, 142, 143, 144, 145, 146, 147, 148, 149, 150, 151, 152, 153, 154, 155, 156, 157, 158, 159, 160, 161, 162, 163, 164, 165, 166, 167, 168, 169, 170, 171, 172, 173, 174, 175, 176, 177, 178, 179, 180, 181, 182, 183, 184, 185, 186, 187, 188, 189, 190, 191, 192, 193, 194, 195, 196, 197, 198, 199, 200, 201] (fun s => [(14, .int .i64 (s.1.1 : Int))]) (fun s => ((gr, C 64 (FV pW n cW qu s.1.2.1 s.1.2.2 s.2.2.1.1 n s.2.2.1.2.1 s.2.2.1.2.2.1 n s.2.2.1.2.2.2)) :: (FL gq ga ca qu s.1.2.1 s.1.2.2 pad s.2.1.1 ++ s.2.2.2))) (fun s => s.1.1 ≤ 90 ∧ FInv qu pW n s.1.2.1 s.1.2.2 ws s.2.1.1 s.2.1.2 s.2.2.1.1 s.2.2.1.2.2.1 s.2.2.2) (fun s => 90 - s.1.1) ((0, a, pd), (rows, rs), (pD, cD, pL, cL), QF) ⟨rfl, trivial⟩ hp ⟨by dsimp only; omega, hI⟩ ?_
  clear hp hI
  rintro ⟨⟨i, a, pd⟩, ⟨rows, rs⟩, ⟨pD, cD, pL, cL⟩, QF⟩ gf w hp ⟨hi, hI⟩
  (try dsimp only at hi hI hp ⊢)
  by_cases hin : i < n2 ∧ i < n3 ∧ i < 90
  · repeat' (first | (refine plays_round rfl ⟨rfl, rfl, rfl, rfl, rfl, rfl, trivial⟩ (by repeat (first | exact NoP.post | assumption | apply NoP.thn | apply NoP.inB)) hW h2 h3 hin.1 hin.2.1 hI hp ?_; clear hp hI; intro g3 a' pd' rows' rs' pD' cD' pL' cL' QF' w hI hp) | (refine st1 ?_) | (refine st2 ?_ ?_) | (clear hp; (try clear w); intro (w : World) (hp : Hp _ _ _ _)) | (clear hp; (try clear w); intro (gn : Nat) (w : World) (hp : Hp _ _ _ _)) | (intro h; (try (exfalso; omega))))
    exact ⟨((i + 1, a', pd'), (rows', rs'), (pD', cD', pL', cL'), QF'), ⟨(by (repeat (first | exact agree_base rfl | (with_reducible exact agree_refl) | (exact agree_eq (by assumption)) | (refine agree_upd rfl ?_) | (refine agree_baseT rfl rfl ?_)))), ⟨rfl, trivial⟩, hp, by dsimp only; omega, hI⟩, by dsimp only; omega⟩
  · repeat' (first | (refine st1 ?_) | (refine st2 ?_ ?_) | (clear hp; (try clear w); intro (w : World) (hp : Hp _ _ _ _)) | (clear hp; (try clear w); intro (gn : Nat) (w : World) (hp : Hp _ _ _ _)) | (intro h; (try (exfalso; omega))))
    all_goals exact leave (fun g => hN g _ w hp) (by (repeat (first | exact agree_base rfl | (with_reducible exact agree_refl) | (exact agree_eq (by assumption)) | (refine agree_upd rfl ?_) | (refine agree_baseT rfl rfl ?_)))) trivial
theorem Hp.toEnd2 {w0 w : World} {x : Nat × Obj} {Q A : Mem} (h : Hp w0 [] w (x :: (Q ++ (A ++ [])))) : Hp w0 [] w (x :: (A ++ Q)) := by
  refine h.perm ?_
  rw [List.append_nil]
  exact List.Perm.cons _ List.perm_append_comm
set_option maxRecDepth 100000 in
set_option maxHeartbeats 1000000 in
theorem plays_tail {w0 w : World} {f : Fr} {n cW n2 c2 n3 c3 : Nat} {pW p2 p3 : Option Addr} {qu : Int} {ws ks_ : List Int} {ts : List ByteArray} {c : Code} {q : Option Addr} (hc : frR Try.f6 14 = some c) (hf : Fits f [(0, .slice pW n cW), (1, .int .i64 qu), (2, .slice p2 n2 c2), (3, .slice p3 n3 c3), (9, .pointer q), (10, .int .i64 (fnE ws qu)), (11, .int .i64 (fnE ws qu))]) (hW : SlR 1 encN w0 pW n ws) (h2 : SlR 1 encN w0 p2 n2 ks_) (h3 : SlR 1 encS w0 p3 n3 ts) {L : Mem} (hp : Hp w0 [] w L) (hq : (fnE ws qu ≠ 0 ∧ q = none ∧ L = []) ∨ (fnE ws qu = 0 ∧ ∃ gq ga ca pad rows, q = some ⟨gq, 0, none⟩ ∧ rows.map PR.abs = ws.map (fun w => ⟨w, 0, []⟩) ∧ RowsOk rows ∧ L = FL gq ga ca qu 0 false pad rows ++ [])) : E.W Try.prog Try.f6.ntmps c (post Try.prog Try.f6 (fun e w' => ∃ v, e = .returned v ∧ v = .bool true ∧ Below w0.heap.size w0 w')) f w := by
  have lW := hW.len
  refine W_from hc rfl hf ?_; intro hfe
  rcases hq with ⟨hne, rfl, rfl⟩ | ⟨h0, gq, ga, ca, pad, rows, rfl, habs, hok, rfl⟩
  · generalize fnE ws qu = e at hne hfe ⊢
    repeat' (first | (refine st1 ?_) | (refine st2 ?_ ?_) | (clear hp; (try clear w); intro (w : World) (hp : Hp _ _ _ _)) | (clear hp; (try clear w); intro (gn : Nat) (w : World) (hp : Hp _ _ _ _)) | (intro h; (try (exfalso; omega))))
    all_goals (refine r_t rfl rfl ⟨_, rfl, ?_, hp.below⟩; first | rfl | (refine vb ?_; simp; done))
  · have hg := new_good h0
    have hgl := hg.len
    simp only [List.length_map] at hgl
    have hrl : rows.length = ws.length := by have := congrArg List.length habs; simpa using this
    rw [h0] at hfe ⊢
    repeat' (first | (((with_reducible refine g_call ?_); refine o_call (NewFair_c _ (hW.hp hp) (by omega) (by omega)) rfl rfl ?_); rintro v w ⟨pD, pL, QF, rs, rfl, habs2, hp2, hrd⟩; replace hp := hp.fresh hp2; clear hp2; replace hp := (show Hp w0 [] w (QF ++ (FL gq ga ca qu 0 false pad rows ++ [])) from hp)) | (refine plays_loop rfl ⟨rfl, rfl, rfl, rfl, rfl, rfl, trivial⟩ (by repeat (first | exact NoP.post | assumption | apply NoP.thn | apply NoP.inB)) hW h2 h3 ⟨hok, by show FGood qu (FS.mk (rows.map PR.abs) 0 false); rw [habs]; exact hg, by rw [habs2, habs], hrd, by omega⟩ (Hp.toEnd2 hp) ?_; clear hp; intro gX LX w hp) | (refine st1 ?_) | (refine st2 ?_ ?_) | (clear hp; (try clear w); intro (w : World) (hp : Hp _ _ _ _)) | (clear hp; (try clear w); intro (gn : Nat) (w : World) (hp : Hp _ _ _ _)) | (intro h; (try (exfalso; omega))))
    refine r_t rfl rfl ⟨_, rfl, ?_, hp.below⟩; rfl
end Go.Proofs.Ytipjhbkjgidljaa
