/- The law FairPlays: its fact. -/
import Derived.Test.YtipjhbkjgidljaaFai9
import Derived.Test.YtipjhbkjgidljaaBucSays
namespace Go.Proofs.Ytipjhbkjgidljaa
open Go Go.RowKit E
attribute [local irreducible] E.W E.WL E.thn E.inB E.post E.QL E.bt ByteArray.extract E.RG E.RK
set_option linter.unusedVariables false
theorem FL_two {gq ga ca : Nat} {qu : Int} {at_ : Nat} {paid : Bool} {pad : List Value} {rows : List PR} {w : World} (h : Kn w (FL gq ga ca qu at_ paid pad rows)) : Kn w [(gq, C 87 [.slice (some ⟨ga, 0, none⟩) rows.length ca, .int .i64 qu, .int .i64 (at_ : Int), .bool paid]), (ga, C 89 ((rows.map PR.enc).flatten ++ pad))] :=
  h.sub (List.Sublist.cons_cons _ (List.Sublist.cons_cons _ (List.nil_sublist _)))
theorem New_ok {p : Option Addr} {n c : Nat} {ws : List Int} {qu : Int} (w0 : World) (hs : SlR 1 encN w0 p n ws) (h0 : fnE ws qu = 0) : Ret Try.prog 30 [.slice p n c, .int .i64 qu] w0 fun v w' => ∃ gq ga ca pad rows, v = .tuple #[.pointer (some ⟨gq, 0, none⟩), .int .i64 0] ∧ rows.map PR.abs = ws.map (fun w => ⟨w, 0, []⟩) ∧ RowsOk rows ∧ Hp w0 [] w' (FL gq ga ca qu 0 false pad rows) :=
  Calls.mono (New_c w0 hs) fun e w' ⟨v, he, h⟩ => ⟨v, he, by
    rcases h with ⟨h1, _⟩ | ⟨_, h⟩
    · exact absurd h0 h1
    · exact h⟩
theorem Waiting_ok {w0 : World} {gq ga ca : Nat} {qu : Int} {at_ : Nat} {paid : Bool} {pad : List Value} {rows : List PR} {i : Int} {r : PR} (hk : Kn w0 (FL gq ga ca qu at_ paid pad rows)) (h0 : 0 ≤ i) (hr : rows[i.toNat]? = some r) : Ret Try.prog 36 [.pointer (some ⟨gq, 0, none⟩), .int .i64 i] w0 fun v w' => v = .tuple #[.int .i64 (r.ss.length : Int), .int .i64 0] ∧ Below w0.heap.size w0 w' := by
  have h := Waiting_c (i := i) (FL_two hk)
  have hlt := (List.getElem?_eq_some_iff.1 hr).1
  rw [if_pos ⟨h0, by omega⟩, hr] at h
  exact h
theorem Waiting_no {w0 : World} {gq ga ca : Nat} {qu : Int} {at_ : Nat} {paid : Bool} {pad : List Value} {rows : List PR} {i : Int} (hk : Kn w0 (FL gq ga ca qu at_ paid pad rows)) (h0 : (rows.length : Int) ≤ i) : Ret Try.prog 36 [.pointer (some ⟨gq, 0, none⟩), .int .i64 i] w0 fun v w' => v = .tuple #[.int .i64 0, .int .i64 1] ∧ Below w0.heap.size w0 w' := by
  have h := Waiting_c (i := i) (FL_two hk)
  rw [if_neg (by omega)] at h
  exact h
theorem Put_g {w0 : World} {gq ga ca : Nat} {qu e : Int} {at_ : Nat} {paid : Bool} {pad : List Value} {rows : List PR} {qs : List FQ} {i : Int} {s : ByteArray} (hk : Kn w0 (FL gq ga ca qu at_ paid pad rows)) (ho : RowsOk rows) (hq : rows.map PR.abs = qs) (hlen : ∀ x ∈ qs, x.ss.length ≤ 64) (he : pE qs i s = e) : Ret Try.prog 35 [.pointer (some ⟨gq, 0, none⟩), .int .i64 i, .string s] w0 fun v w' => v = .int .i64 e ∧ ∃ rows', RowsOk rows' ∧ rows'.map PR.abs = (if e = 0 then pQ qs i s else qs) ∧ Hp w0 (ks (FL gq ga ca qu at_ paid pad rows)) w' (FL gq ga ca qu at_ paid pad rows') := by
  have h := Put_c (i := i) (s := s) hk ho (fun r hr => hlen r.abs (by rw [← hq]; exact List.mem_map_of_mem hr))
  rw [hq, he] at h
  exact h
theorem fairFact_c (w0 : World) : Ret Try.prog 29 [] w0 fun v w' => v = .bool true ∧ Below w0.heap.size w0 w' := by
  refine enterR Try.func29 rfl Try.ntmps29 rfl ?_
  have hp := Hp.start w0
  repeat' (first | (((with_reducible refine g_call ?_); refine o_call (New_ok _ (SlR.blk (rs := [(1 : Int)]) hp (lk 0 rfl) rfl (by simp)) (by decide)) rfl rfl ?_); rintro v w ⟨gq, ga, ca, pad, rows, rfl, habs, hok, hp2⟩; replace hp := hp.fresh hp2; clear hp2; have hrl : rows.length = 1 := (by have := congrArg List.length habs; simpa using this); obtain ⟨r, hr⟩ : ∃ z, rows[(0 : Int).toNat]? = some z := ⟨_, List.getElem?_eq_getElem (by simp [hrl])⟩; have hra : r.abs = ⟨1, 0, []⟩ := (by have := congrArg (·[0]?) habs; simpa [show rows[0]? = some r from hr] using this); have hrs : r.ss.length = 0 := (by have := congrArg FQ.ss hra; simp only at this; rw [this]; rfl)) | ((with_reducible refine g_call ?_); refine o_callF hp (Waiting_ok (hp.kn.sub (List.sublist_append_left _ _)) (by omega) hr) rfl rfl ?_) | (((with_reducible refine g_call ?_); refine o_call (Put_g (e := 0) (hp.kn.sub (List.sublist_append_left _ _)) hok habs (by intro z hz; simp at hz; subst hz; exact Nat.zero_le _) (by decide)) rfl rfl ?_); rintro v w ⟨rfl, rows2, hok2, habs2, hp2⟩; replace hp := Hp.call [] hp hp2; clear hp2) | ((with_reducible refine g_call ?_); refine o_callF hp (bucketFact_c _) rfl rfl ?_) | (refine st1 ?_) | (refine st2 ?_ ?_) | (clear hp; (try clear w); intro (w : World) (hp : Hp _ _ _ _)) | (clear hp; (try clear w); intro (gn : Nat) (w : World) (hp : Hp _ _ _ _)) | (intro h; (try (exfalso; omega))))
  refine r_t rfl rfl ⟨_, rfl, ?_, hp.below⟩; rfl
end Go.Proofs.Ytipjhbkjgidljaa
