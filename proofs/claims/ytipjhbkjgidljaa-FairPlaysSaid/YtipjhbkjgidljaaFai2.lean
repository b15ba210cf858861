/- Contracts of package fair: leave, what Take looks for, Waiting. -/
import Derived.Test.YtipjhbkjgidljaaFai
import Derived.Test.YtipjhbkjgidljaaTys
namespace Go.Proofs.Ytipjhbkjgidljaa
open Go Go.RowKit E
attribute [local irreducible] E.W E.WL E.thn E.inB E.post E.QL E.bt ByteArray.extract E.RG E.RK
set_option linter.unusedVariables false
abbrev encS : ByteArray → List Value := fun s => [.string s]
structure PR where
  w : Int
  d : Int
  p : Option Addr
  c : Nat
  Q : Mem
  ss : List ByteArray
abbrev PR.enc (r : PR) : List Value := [.int .i64 r.w, .int .i64 r.d, .slice r.p r.ss.length r.c]
abbrev PR.abs (r : PR) : FQ := ⟨r.w, r.d, r.ss⟩
abbrev PR.Ok (r : PR) : Prop := Own 1 encS 9 r.p r.c r.Q r.ss
abbrev FL (gq ga ca : Nat) (qu : Int) (at_ : Nat) (paid : Bool) (pad : List Value) (rows : List PR) : Mem :=
  (gq, C 87 [.slice (some ⟨ga, 0, none⟩) rows.length ca, .int .i64 qu, .int .i64 (at_ : Int), .bool paid]) :: (ga, C 89 ((rows.map PR.enc).flatten ++ pad)) :: (rows.map PR.Q).flatten
theorem leave_c {w0 : World} {gq n c a : Nat} {p : Option Addr} {qu : Int} {paid : Bool} (hk : Kn w0 [(gq, C 87 [.slice p n c, .int .i64 qu, .int .i64 (a : Int), .bool paid])]) (h0 : a < n) (h1 : n ≤ 1000) : Ret Try.prog 52 [.pointer (some ⟨gq, 0, none⟩)] w0 fun v w' => v = .tuple #[] ∧ Hp w0 [gq] w' [(gq, C 87 [.slice p n c, .int .i64 qu, .int .i64 (((a + 1) % n : Nat) : Int), .bool false])] := by
  refine enterR Try.func52 rfl Try.ntmps52 rfl ?_
  have hp := hk.hp
  repeat' (first | ((with_reducible refine gW ?_); first | (refine W_regionG (id := 0) [15, 18] hp (by kernel_rfl) ?_; clear hp; (try clear w); intro w hp)) | ((with_reducible refine rg_id ?_); first | (refine RX_pure (rid := 0) (fuel := 18) (m := 0) 0 1 rfl rfl (by kernel_rfl) (by kernel_rfl) (by kernel_rfl) (by kernel_rfl) (by kernel_rfl) (by repeat (first | exact NoP.post | assumption | apply NoP.thn | apply NoP.inB)) ?_) | (refine RX_pure (rid := 0) (fuel := 17) (m := 1) 1 3 rfl rfl (by kernel_rfl) (by kernel_rfl) (by kernel_rfl) (by kernel_rfl) (by kernel_rfl) (by repeat (first | exact NoP.post | assumption | apply NoP.thn | apply NoP.inB)) ?_) | (refine RX_pure (rid := 0) (fuel := 16) (m := 3) 2 7 rfl rfl (by kernel_rfl) (by kernel_rfl) (by kernel_rfl) (by kernel_rfl) (by kernel_rfl) (by repeat (first | exact NoP.post | assumption | apply NoP.thn | apply NoP.inB)) ?_) | (refine RX_pure (rid := 0) (fuel := 15) (m := 7) 3 15 rfl rfl (by kernel_rfl) (by kernel_rfl) (by kernel_rfl) (by kernel_rfl) (by kernel_rfl) (by repeat (first | exact NoP.post | assumption | apply NoP.thn | apply NoP.inB)) ?_) | (refine RX_pure (rid := 0) (fuel := 14) (m := 15) 4 31 rfl rfl (by kernel_rfl) (by kernel_rfl) (by kernel_rfl) (by kernel_rfl) (by kernel_rfl) (by repeat (first | exact NoP.post | assumption | apply NoP.thn | apply NoP.inB)) ?_) | (refine RX_pure (rid := 0) (fuel := 13) (m := 31) 7 159 rfl rfl (by kernel_rfl) (by kernel_rfl) (by kernel_rfl) (by kernel_rfl) (by kernel_rfl) (by repeat (first | exact NoP.post | assumption | apply NoP.thn | apply NoP.inB)) ?_) | (refine RX_pure (rid := 0) (fuel := 12) (m := 159) 8 415 rfl rfl (by kernel_rfl) (by kernel_rfl) (by kernel_rfl) (by kernel_rfl) (by kernel_rfl) (by repeat (first | exact NoP.post | assumption | apply NoP.thn | apply NoP.inB)) ?_) | (refine RX_pure (rid := 0) (fuel := 11) (m := 415) 9 927 rfl rfl (by kernel_rfl) (by kernel_rfl) (by kernel_rfl) (by kernel_rfl) (by kernel_rfl) (by repeat (first | exact NoP.post | assumption | apply NoP.thn | apply NoP.inB)) ?_) | (refine RX_load (rid := 0) (fuel := 10) (m := 927) 5 959 [6, 12, 13, 14, 15, 16, 17, 18] rfl rfl (by kernel_rfl) (by kernel_rfl) (by kernel_rfl) (by kernel_rfl) (by kernel_rfl) (by kernel_rfl) (by kernel_rfl) (by repeat (first | exact NoP.post | assumption | apply NoP.thn | apply NoP.inB)) ?_) | (refine RX_pure (rid := 0) (fuel := 9) (m := 959) 6 1023 rfl rfl (by kernel_rfl) (by kernel_rfl) (by kernel_rfl) (by kernel_rfl) (by kernel_rfl) (by repeat (first | exact NoP.post | assumption | apply NoP.thn | apply NoP.inB)) ?_) | (refine RX_load (rid := 0) (fuel := 8) (m := 1023) 10 2047 [11, 12, 13, 14, 15, 16, 17, 18] rfl rfl (by kernel_rfl) (by kernel_rfl) (by kernel_rfl) (by kernel_rfl) (by kernel_rfl) (by kernel_rfl) (by kernel_rfl) (by repeat (first | exact NoP.post | assumption | apply NoP.thn | apply NoP.inB)) ?_) | (refine RX_pure (rid := 0) (fuel := 7) (m := 2047) 11 4095 rfl rfl (by kernel_rfl) (by kernel_rfl) (by kernel_rfl) (by kernel_rfl) (by kernel_rfl) (by repeat (first | exact NoP.post | assumption | apply NoP.thn | apply NoP.inB)) ?_) | (refine RX_pure (rid := 0) (fuel := 6) (m := 4095) 12 8191 rfl rfl (by kernel_rfl) (by kernel_rfl) (by kernel_rfl) (by kernel_rfl) (by kernel_rfl) (by repeat (first | exact NoP.post | assumption | apply NoP.thn | apply NoP.inB)) ?_) | (refine RX_pure (rid := 0) (fuel := 5) (m := 8191) 13 16383 rfl rfl (by kernel_rfl) (by kernel_rfl) (by kernel_rfl) (by kernel_rfl) (by kernel_rfl) (by repeat (first | exact NoP.post | assumption | apply NoP.thn | apply NoP.inB)) ?_) | (refine RX_pure (rid := 0) (fuel := 4) (m := 16383) 14 32767 rfl rfl (by kernel_rfl) (by kernel_rfl) (by kernel_rfl) (by kernel_rfl) (by kernel_rfl) (by repeat (first | exact NoP.post | assumption | apply NoP.thn | apply NoP.inB)) ?_) | (refine RX_one (rid := 0) (fuel := 3) (m := 32767) 15 65535 (by kernel_rfl) rfl (by kernel_rfl) (by repeat (first | exact NoP.post | assumption | apply NoP.thn | apply NoP.inB)) ?_) | (refine RX_pure (rid := 0) (fuel := 2) (m := 65535) 16 131071 rfl rfl (by kernel_rfl) (by kernel_rfl) (by kernel_rfl) (by kernel_rfl) (by kernel_rfl) (by repeat (first | exact NoP.post | assumption | apply NoP.thn | apply NoP.inB)) ?_) | (refine RX_pure (rid := 0) (fuel := 1) (m := 131071) 17 262143 rfl rfl (by kernel_rfl) (by kernel_rfl) (by kernel_rfl) (by kernel_rfl) (by kernel_rfl) (by repeat (first | exact NoP.post | assumption | apply NoP.thn | apply NoP.inB)) ?_) | (refine RX_one (rid := 0) (fuel := 0) (m := 262143) 18 524287 (by kernel_rfl) rfl (by kernel_rfl) (by repeat (first | exact NoP.post | assumption | apply NoP.thn | apply NoP.inB)) ?_) | (refine RG_done (rid := 0) (fuel := 0) (m := 524287) (by kernel_rfl) ?_)) | ((with_reducible refine rk_id ?_); first | (refine RK_no (rid := 0) (m := 65535) (by kernel_rfl) ?_) | (refine RK_no (rid := 0) (m := 524287) (by kernel_rfl) ?_)) | (refine st1 ?_) | (refine st2 ?_ ?_) | (clear hp; (try clear w); intro (w : World) (hp : Hp _ _ _ _)) | (clear hp; (try clear w); intro (gn : Nat) (w : World) (hp : Hp _ _ _ _)) | (intro h; (try (exfalso; omega))))
  exact end0 rfl ⟨_, rfl, rfl, hp⟩
theorem took1_c {x : PR} (w0 : World) : Ret Try.prog 51 [.agg #[.int .i64 x.w, .int .i64 x.d, .slice x.p x.ss.length x.c]] w0 fun v w' => v = .bool (decide (x.ss ≠ [])) ∧ Below w0.heap.size w0 w' := by
  refine enterR Try.func51 rfl Try.ntmps51 rfl ?_
  have hp := Hp.start w0
  repeat' (first | (refine st1 ?_) | (refine st2 ?_ ?_) | (clear hp; (try clear w); intro (w : World) (hp : Hp _ _ _ _)) | (clear hp; (try clear w); intro (gn : Nat) (w : World) (hp : Hp _ _ _ _)) | (intro h; (try (exfalso; omega))))
  refine r_t rfl rfl ⟨_, rfl, ?_, hp.below⟩; refine vb ?_
  cases x.ss <;> simp
theorem index_c {p : Option Addr} {n c : Nat} {rows : List PR} (w0 : World) (hs : SlR 3 PR.enc w0 p n rows) (hn : n ≤ 1000) : Ret Try.prog 56 [.slice p n c, .func (.func 51) #[] #[]] w0 fun v w' => (∃ i, v = .int .i64 i ∧ (0 ≤ i ↔ ∃ x ∈ rows, x.ss ≠ [])) ∧ Below w0.heap.size w0 w' := by
  have ln := hs.len
  refine enterR Try.func56 rfl Try.ntmps56 rfl ?_
  have hp := Hp.start w0
  repeat' (first | (refine W_loopS (σ := Nat) [4, 5, 8, 9, 10, 11, 12, 13, 14, 15, 16, 17, 18] (fun i => [(8, .int .i64 (i : Int))]) (fun _ => []) (fun i => i ≤ n ∧ ∀ x ∈ rows.take i, x.ss = []) (fun i => n - i) 0 ⟨rfl, trivial⟩ hp ⟨by omega, by simp⟩ ?_; clear hp; intro i g2 w hp ⟨hi, he⟩; rcases Nat.lt_or_ge i n with hin | hin; obtain ⟨x, hx⟩ : ∃ z, rows[i]? = some z := ⟨_, List.getElem?_eq_getElem (by omega)⟩) | ((with_reducible refine g_ia ?_); apply o_iaRk hs; infer_instance; infer_instance; rfl; rfl; (first | omega | (focus (simp only [IntKind.bits]; omega)) | (focus (simp; done)) | (focus (simp; omega))); exact hx; rfl; intro adr hat) | ((with_reducible refine g_call ?_); refine o_callv (fid := 51) rfl (took1_c _) rfl rfl ?_; rintro v w ⟨rfl, hb⟩; replace hp := hp.step hb; clear hb) | (refine st1 ?_) | (refine st2 ?_ ?_) | (clear hp; (try clear w); intro (w : World) (hp : Hp _ _ _ _)) | (clear hp; (try clear w); intro (gn : Nat) (w : World) (hp : Hp _ _ _ _)) | (intro h; (try (exfalso; omega))))
  · exact r_t rfl rfl ⟨_, rfl, ⟨_, rfl, ⟨fun _ => ⟨x, List.mem_of_getElem? hx, by assumption⟩, fun _ => by omega⟩⟩, hp.below⟩
  · refine ⟨i + 1, ⟨(by (repeat (first | exact agree_base rfl | (with_reducible exact agree_refl) | (exact agree_eq (by assumption)) | (refine agree_upd rfl ?_) | (refine agree_baseT rfl rfl ?_)))), ⟨rfl, trivial⟩, hp, by omega, ?_⟩, by omega⟩
    intro y hy
    rw [List.take_add_one, hx] at hy
    simp at hy
    rcases hy with hy | rfl
    · exact he y hy
    · simpa using ‹¬ y.ss ≠ []›
  · refine r_t rfl rfl ⟨_, rfl, ⟨_, rfl, ⟨fun h => by omega, fun ⟨x, hx, hne⟩ => ?_⟩⟩, hp.below⟩
    rw [List.take_of_length_le (by omega)] at he
    exact absurd (he x hx) hne
theorem contains_c {p : Option Addr} {n c : Nat} {rows : List PR} (w0 : World) (hs : SlR 3 PR.enc w0 p n rows) (hn : n ≤ 1000) : Ret Try.prog 50 [.slice p n c, .func (.func 51) #[] #[]] w0 fun v w' => v = .bool (decide (∃ x ∈ rows, x.ss ≠ [])) ∧ Below w0.heap.size w0 w' := by
  refine enterR Try.func50 rfl Try.ntmps50 rfl ?_
  have hp := Hp.start w0
  repeat' (first | (((with_reducible refine g_call ?_); refine o_call (index_c _ hs hn) rfl rfl ?_); rintro v w ⟨⟨i, rfl, hi⟩, hb⟩; replace hp := hp.step hb; clear hb) | (refine st1 ?_) | (refine st2 ?_ ?_) | (clear hp; (try clear w); intro (w : World) (hp : Hp _ _ _ _)) | (clear hp; (try clear w); intro (gn : Nat) (w : World) (hp : Hp _ _ _ _)) | (intro h; (try (exfalso; omega))))
  refine r_t rfl rfl ⟨_, rfl, ?_, hp.below⟩; refine vb ?_
  exact decide_eq_decide.2 hi
theorem Waiting_c {w0 : World} {gq ga ca : Nat} {qu : Int} {at_ : Nat} {paid : Bool} {pad : List Value} {rows : List PR} {i : Int} (hk : Kn w0 [(gq, C 87 [.slice (some ⟨ga, 0, none⟩) rows.length ca, .int .i64 qu, .int .i64 (at_ : Int), .bool paid]), (ga, C 89 ((rows.map PR.enc).flatten ++ pad))]) : Ret Try.prog 36 [.pointer (some ⟨gq, 0, none⟩), .int .i64 i] w0 fun v w' => v = (if 0 ≤ i ∧ i < (rows.length : Int) then .tuple #[.int .i64 ((rows[i.toNat]?).elim 0 fun x => (x.ss.length : Int)), .int .i64 0] else .tuple #[.int .i64 0, .int .i64 1]) ∧ Below w0.heap.size w0 w' := by
  refine enterR Try.func36 rfl Try.ntmps36 rfl ?_
  have hp := hk.hp
  by_cases hi : 0 ≤ i ∧ i < (rows.length : Int)
  · obtain ⟨x, hx⟩ : ∃ z, rows[i.toNat]? = some z := ⟨_, List.getElem?_eq_getElem (by omega)⟩
    repeat' (first | ((with_reducible refine g_ia ?_); apply o_iaKn (Rows.flat (pad := pad) (m := 3) (enc := PR.enc) (by intros; rfl)); infer_instance; infer_instance; rfl; rfl; (first | omega | (focus (simp only [IntKind.bits]; omega)) | (focus (simp; done)) | (focus (simp; omega))); exact hx; (first | rfl | (first | omega | (focus (simp only [IntKind.bits]; omega)) | (focus (simp; done)) | (focus (simp; omega)))); rfl; intro adr hadr hcut) | (refine st1 ?_) | (refine st2 ?_ ?_) | (clear hp; (try clear w); intro (w : World) (hp : Hp _ _ _ _)) | (clear hp; (try clear w); intro (gn : Nat) (w : World) (hp : Hp _ _ _ _)) | (intro h; (try (exfalso; omega))))
    refine r_tt rfl rfl rfl ⟨_, rfl, ?_, hp.belowQ (B := []) hk⟩
    rw [if_pos hi, hx]; rfl
  · repeat' (first | (refine st1 ?_) | (refine st2 ?_ ?_) | (clear hp; (try clear w); intro (w : World) (hp : Hp _ _ _ _)) | (clear hp; (try clear w); intro (gn : Nat) (w : World) (hp : Hp _ _ _ _)) | (intro h; (try (exfalso; omega))))
    all_goals refine r_tt rfl rfl rfl ⟨_, rfl, ?_, hp.belowQ (B := []) hk⟩
    all_goals rw [if_neg hi]; try rfl
end Go.Proofs.Ytipjhbkjgidljaa
