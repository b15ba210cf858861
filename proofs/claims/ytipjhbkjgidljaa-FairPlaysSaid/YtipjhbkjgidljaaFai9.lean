/- The contract of the reference's Take. -/
import Derived.Test.YtipjhbkjgidljaaFai8
namespace Go.Proofs.Ytipjhbkjgidljaa
open Go Go.RowKit E
attribute [local irreducible] E.W E.WL E.thn E.inB E.post E.QL E.bt ByteArray.extract E.RG E.RK
set_option linter.unusedVariables false
theorem some_step {rs : List PR} {i : Nat} {r : PR} (hr : rs[i]? = some r) : (∃ x ∈ rs.take (i + 1), x.ss ≠ []) ↔ ((∃ x ∈ rs.take i, x.ss ≠ []) ∨ r.ss ≠ []) := by
  rw [List.take_add_one, hr]
  simp only [Option.toList_some, List.mem_append, List.mem_singleton]
  constructor
  · rintro ⟨x, hx | rfl, h⟩
    · exact .inl ⟨x, hx, h⟩
    · exact .inr h
  · rintro (⟨x, hx, h⟩ | h)
    · exact ⟨x, .inl hx, h⟩
    · exact ⟨r, .inr rfl, h⟩
abbrev RowsRd (w : World) (rs : List PR) : Prop := ∀ r ∈ rs, SlR 1 encS w r.p r.ss.length r.ss ∧ r.ss.length ≤ r.c
theorem rows_set_rd {w : World} {rs : List PR} {b : Nat} {r' : PR} (h : RowsRd w rs) (h' : SlR 1 encS w r'.p r'.ss.length r'.ss ∧ r'.ss.length ≤ r'.c) : RowsRd w (rs.set b r') := fun r hr => by
  rcases List.mem_or_eq_of_mem_set hr with h1 | h1
  · exact h r h1
  · subst h1; exact h'
theorem row_drop {w : World} {r r' : PR} (h : SlR 1 encS w r.p r.ss.length r.ss ∧ r.ss.length ≤ r.c) (h0 : r.ss ≠ []) (e1 : r'.ss = r.ss.drop 1) (e2 : r'.c = r.c - 1) (e3 : r'.p = (if r.c = 1 then r.p else r.p.map (·.add (1 * 1)))) : SlR 1 encS w r'.p r'.ss.length r'.ss ∧ r'.ss.length ≤ r'.c := by
  have hl : 0 < r.ss.length := List.length_pos_iff.2 h0
  have h1 := SlR.drop' (c := r.c) (j := 1) h.1 hl h.2
  rw [e1, e2, e3, List.length_drop]
  exact ⟨h1, by omega⟩
theorem fStep_ne {qu : Int} {s s' : FS} {k : Nat} {y : ByteArray} {x : FQ} (h : fStep qu s = .inr (s', k, y)) (hx : s.qs[s.at_]? = some x) : x.ss ≠ [] := by
  intro h0
  unfold fStep at h
  rw [hx] at h
  simp [h0] at h
theorem fStep_k {qu : Int} {s s' : FS} {k : Nat} {y : ByteArray} (h : fStep qu s = .inr (s', k, y)) : k = s.at_ := by
  unfold fStep at h
  split at h
  · cases h
  · split at h
    · cases h
    · split at h
      · cases h
      · split at h <;> (injection h with h; injection h with h1 h2; injection h2 with h2 h3; exact h2.symm)
set_option maxHeartbeats 4000000 in
theorem RTake_c {pW pD pL : Option Addr} {n cW cD cL a : Nat} {qu : Int} {paid : Bool} {rs : List PR} (w0 : World) (hrd : FRd w0 pW pD pL n rs) (hg : FGood qu (fS a paid rs)) : Ret Try.prog 33 [.agg (FV pW n cW qu a paid pD n cD pL n cL).toArray] w0 fun v w' => ((∀ x ∈ rs, x.ss = []) ∧ v = .tuple #[.agg (FV pW n cW qu a paid pD n cD pL n cL).toArray, .int .i64 (-1), .string ByteArray.empty] ∧ Below w0.heap.size w0 w') ∨ (∃ s' k y pD' cD' pL' cL' Q rs', FTook qu (fS a paid rs) (s', k, y) ∧ v = .tuple #[.agg (FV pW n cW qu s'.at_ s'.paid pD' n cD' pL' n cL').toArray, .int .i64 ((k : Nat) : Int), .string y] ∧ rs'.map PR.abs = s'.qs ∧ Hp w0 [] w' Q ∧ ∀ w, Has w Q → FRd w pW pD pL n rs → FRd w pW pD' pL' n rs') := by
  have ln := hrd.cut
  have hlen := hg.len
  simp only [List.length_map] at hlen
  refine enterR Try.func33 rfl Try.ntmps33 rfl ?_
  have hp := Hp.start w0
  repeat' (first | (rename_i gf; refine W_loopS (σ := Nat) [5, 6, 9, 10, 11, 12, 13, 14, 15, 16, 17, 18, 19, 20, 21, 22, 23, 24, 25] (fun i => [(6, .int .i64 (i : Int)), (5, .bool (decide (∃ x ∈ rs.take i, x.ss ≠ [])))]) (fun _ => [(gn, C 64 (FV none 0 0 0 0 false none 0 0 none 0 0)), (gf, C 64 (FV pW n cW qu a paid pD n cD pL n cL))]) (fun i => i ≤ n) (fun i => n - i) 0 ⟨rfl, (by show Value.bool false = _; simp), trivial⟩ hp (Nat.zero_le _) ?_; clear hp; (obtain ⟨g2, rfl⟩ : ∃ z, z = gn := ⟨gn, rfl⟩); intro i gr w hp hi; rcases Nat.lt_or_ge i n with hin | hin; (obtain ⟨r, hr⟩ : ∃ z, rs[i]? = some z := ⟨_, List.getElem?_eq_getElem (by omega)⟩)) | ((with_reducible refine g_ia ?_); apply o_iaRk hrd.ls; infer_instance; infer_instance; rfl; rfl; (first | omega | (focus (simp only [IntKind.bits]; omega)) | (focus (simp; done)) | (focus (simp; omega))); exact hr; rfl; intro adr hat) | (((with_reducible refine g_call ?_); apply o_appN [] n hp (Own.nil (R := PR) (m := 1) (enc := PR.ed)) (hrd.ds.hp hp); infer_instance; infer_instance; infer_instance; infer_instance; rfl; (first | omega | (focus (simp only [IntKind.bits]; omega)) | (focus (simp; done)) | (focus (simp; omega))); rfl; rfl; rfl; (intros; rfl); (intros; rfl); ((intro r _ v hv; simp only [List.mem_cons, List.not_mem_nil, or_false] at hv; rcases hv with rfl | rfl | rfl | rfl | rfl | rfl | rfl | rfl | rfl | rfl <;> rfl)); (first | omega | (focus (simp only [IntKind.bits]; omega)) | (focus (simp; done)) | (focus (simp; omega))); (first | omega | (focus (simp only [IntKind.bits]; omega)) | (focus (simp; done)) | (focus (simp; omega))); rfl; clear hp; (try clear w); intro p1 c1 Q1 w hown1 hp); simp only [List.nil_append] at hown1; obtain ⟨gD, padD, rfl, rfl, hc1, hpd1⟩ := hown1.inv (i := 0) (by omega)) | (((with_reducible refine g_call ?_); apply o_appN [] n hp (Own.nil (R := PR) (m := 1) (enc := PR.hd)) (hrd.ls.hp hp); infer_instance; infer_instance; infer_instance; infer_instance; rfl; (first | omega | (focus (simp only [IntKind.bits]; omega)) | (focus (simp; done)) | (focus (simp; omega))); rfl; rfl; rfl; (intros; rfl); (intros; rfl); ((intro r _ v hv; simp only [List.mem_cons, List.not_mem_nil, or_false] at hv; rcases hv with rfl | rfl | rfl | rfl | rfl | rfl | rfl | rfl | rfl | rfl <;> rfl)); (first | omega | (focus (simp only [IntKind.bits]; omega)) | (focus (simp; done)) | (focus (simp; omega))); (first | omega | (focus (simp only [IntKind.bits]; omega)) | (focus (simp; done)) | (focus (simp; omega))); rfl; clear hp; (try clear w); intro p2 c2 Q2 w hown2 hp); simp only [List.nil_append] at hown2; obtain ⟨gL, padL, rfl, rfl, hc2, hpd2⟩ := hown2.inv (i := 0) (by omega); have hne : ∃ x ∈ rs, x.ss ≠ [] := (by have h0 := ‹¬¬∃ x, x ∈ List.take i rs ∧ x.ss ≠ []›; rw [List.take_of_length_le (by omega)] at h0; exact Classical.not_not.1 h0); obtain ⟨x, hx, hxs⟩ := hne; obtain ⟨j, hj⟩ := List.mem_iff_getElem?.1 hx; have hj' : (fS a paid rs).qs[j]? = some x.abs := (by simp [hj])) | (refine W_loopS (σ := (Nat × Bool) × List PR) [3, 4, 7, 8, 39, 40, 41, 42, 43, 44, 45, 46, 47, 48, 49, 50, 51, 52, 53, 54, 55, 56, 57, 58, 59, 60, 61, 62, 63, 64, 65, 66, 67, 68, 69, 70, 71, 72, 73, 74, 75, 76, 77, 78, 79, 80, 81, 82, 83, 84, 85, 86, 87, 88, 89, 90, 91, 92, 93, 94, 95, 96, 97, 98, 99, 100, 101, 102, 103, 104, 105, 106, 107, 108, 109, 110, 111, 112, 113, 114, 115, 116, 117, 118, 119, 120, 121, 122, 123, 124, 125, 126, 127, 128, 129, 130, 131, 132, 133, 134, 135] (fun _ => []) (fun s => LR g2 gf gD gL cW c1 c2 n s.1.1 pW qu s.1.2 (s.2.map PR.ed).flatten (s.2.map PR.hd).flatten padD padL) (fun s => FFrom qu (fS a paid rs) (fS s.1.1 s.1.2 s.2) ∧ FGood qu (fS s.1.1 s.1.2 s.2) ∧ (∃ x, (fS s.1.1 s.1.2 s.2).qs[j]? = some x ∧ x.ss ≠ []) ∧ s.2.map PR.ew = rs.map PR.ew ∧ ∀ w, FRd w pW pD pL n rs → RowsRd w s.2) (fun s => fMu j (fS s.1.1 s.1.2 s.2)) ((a, paid), rs) trivial hp ⟨FFrom.refl, hg, ⟨_, hj', hxs⟩, rfl, fun w h => h.row⟩ ?_; clear hp; rintro ⟨⟨b, pd⟩, rq⟩ gr2 w hp ⟨hfrom, hgq, ⟨x', hx', hxs'⟩, heq, hrows⟩; (try dsimp only at hfrom hgq hx' heq hrows hp ⊢); have hnq : n = rq.length := (by have := congrArg List.length heq; simp at this; omega)) | (refine rtake_round rfl ⟨rfl, rfl, trivial⟩ (by repeat (first | exact NoP.post | assumption | apply NoP.thn | apply NoP.inB)) hgq hnq (SlR.by hrd.ws heq.symm) (hrows w0 hrd) hp ?_ ?_) | (refine st1 ?_) | (refine st2 ?_ ?_) | (clear hp; (try clear w); intro (w : World) (hp : Hp _ _ _ _)) | (clear hp; (try clear w); intro (gn : Nat) (w : World) (hp : Hp _ _ _ _)) | (intro h; (try (exfalso; omega))))
  · refine ⟨i + 1, ⟨(by (repeat (first | exact agree_base rfl | (with_reducible exact agree_refl) | (exact agree_eq (by assumption)) | (refine agree_upd rfl ?_) | (refine agree_baseT rfl rfl ?_)))), ⟨rfl, vb (decide_eq_decide.2 ?_), trivial⟩, hp, by omega⟩, by omega⟩
    rw [some_step hr]
    constructor
    · intro h1
      refine .inr fun h2 => ?_
      rw [h2] at h1; simp at h1
    · rintro (h1 | h1)
      · exact absurd h1 h
      · have := List.length_pos_iff.2 h1; omega
  · exact ⟨i + 1, ⟨(by (repeat (first | exact agree_base rfl | (with_reducible exact agree_refl) | (exact agree_eq (by assumption)) | (refine agree_upd rfl ?_) | (refine agree_baseT rfl rfl ?_)))), ⟨rfl, vb (decide_eq_true ((some_step hr).2 (.inl h))).symm, trivial⟩, hp, by omega⟩, by omega⟩
  · (apply r_ctt hp; rfl; infer_instance; infer_instance; rfl; (exact lk_auto); rfl; rfl; rfl; refine ⟨_, rfl, ?_⟩)
    rw [List.take_of_length_le (by omega)] at h
    exact .inl ⟨fun x hx => Classical.byContradiction fun h2 => h ⟨x, hx, h2⟩, rfl, hp.below⟩
  · rename_i gX rs' b' wX hst hex
    obtain ⟨r, r', hr, hrs, e1, e2, e3, e4⟩ := hex
    have hm := fMu_step hgq hx' hxs' hst
    refine ⟨((b', false), rs'), ⟨(by (repeat (first | exact agree_base rfl | (with_reducible exact agree_refl) | (exact agree_eq (by assumption)) | (refine agree_upd rfl ?_) | (refine agree_baseT rfl rfl ?_)))), trivial, h, hfrom.step hst, hgq.step hst, hm.2, ?_, fun w hw => ?_⟩, hm.1⟩
    · show rs'.map PR.ew = rs.map PR.ew
      rw [hrs, flat_same hr (f := PR.ew) (by show ([_] : List Value) = [_]; rw [e4])]; exact heq
    · show RowsRd w rs'
      rw [hrs]
      refine rows_set_rd (hrows w hw) ?_
      rw [e1, e2, e3]
      exact hrows w hw r (List.mem_of_getElem? hr)
  · rename_i F k y rs' b' pd' r r' wX hst hr hrs e1 e2 e3 e4 hpX f2 f3
    refine (r_ctt (g := g2) (i := 2) hpX rfl inferInstance inferInstance f2 (lk 2 rfl) rfl f3 h ⟨_, rfl, ?_⟩)
    have hew : rs'.map PR.ew = rs.map PR.ew := by rw [hrs, flat_same hr (f := PR.ew) (by show ([_] : List Value) = [_]; rw [e1])]; exact heq
    have hl' : n = rs'.length := by rw [hrs]; simpa using hnq
    refine .inr ⟨fS b' pd' rs', k, y, _, c1, _, c2, [(gL, C 58 ((rs'.map PR.hd).flatten ++ padL)), (gD, C 3 ((rs'.map PR.ed).flatten ++ padD))], rs', hfrom.done hst, rfl, rfl, hpX.sub (List.Sublist.cons_cons _ (List.Sublist.cons_cons _ (List.nil_sublist _))), fun w hw hrd2 => ⟨SlR.by hrd2.ws hew.symm, SlR.rowN (hw _ (List.mem_cons_of_mem _ List.mem_cons_self)) (Rows.flat (by intros; rfl)) hl', SlR.rowN (hw _ List.mem_cons_self) (Rows.flat (by intros; rfl)) hl', ?_⟩⟩
    show RowsRd w rs'
    rw [hrs]
    exact rows_set_rd (hrows w hrd2) (row_drop (hrows w hrd2 r (List.mem_of_getElem? hr)) (fStep_ne hst (x := r.abs) (by simp [hr])) e2 e3 e4)
end Go.Proofs.Ytipjhbkjgidljaa
