/- Contracts of the reference's fair queues: NewFair, Put. -/
import Derived.Test.YtipjhbkjgidljaaFai5
namespace Go.Proofs.Ytipjhbkjgidljaa
open Go Go.RowKit E
attribute [local irreducible] E.W E.WL E.thn E.inB E.post E.QL E.bt ByteArray.extract E.RG E.RK
set_option linter.unusedVariables false
abbrev PR.ew (r : PR) : List Value := [.int .i64 r.w]
abbrev PR.ed (r : PR) : List Value := [.int .i64 r.d]
abbrev PR.hd (r : PR) : List Value := [.slice r.p r.ss.length r.c]
abbrev Has (w : World) (Q : Mem) : Prop := ∀ x ∈ Q, w.heap[x.1]? = some x.2
structure FRd (w : World) (pW pD pL : Option Addr) (n : Nat) (rs : List PR) : Prop where
  ws : SlR 1 PR.ew w pW n rs
  ds : SlR 1 PR.ed w pD n rs
  ls : SlR 1 PR.hd w pL n rs
  row : ∀ r ∈ rs, SlR 1 encS w r.p r.ss.length r.ss ∧ r.ss.length ≤ r.c
theorem SlR.mapE {R S : Type} {m n : Nat} {enc : R → List Value} {enc' : S → List Value} {w : World} {p : Option Addr} {rs : List R} (g : R → S) (h : SlR m enc w p n rs) (he : ∀ r ∈ rs, enc' (g r) = enc r) : SlR m enc' w p n (rs.map g) :=
  ⟨by simpa using h.len, fun i r hr => by
    rw [List.getElem?_map] at hr
    cases hx : rs[i]? with
    | none => rw [hx] at hr; cases hr
    | some x =>
      rw [hx] at hr; injection hr with hr; subst hr
      rw [he x (List.mem_of_getElem? hx)]; exact h.get i x hx⟩
abbrev FV (pW : Option Addr) (nW cW : Nat) (qu : Int) (a : Nat) (paid : Bool) (pD : Option Addr) (nD cD : Nat) (pL : Option Addr) (nL cL : Nat) : List Value := [.slice pW nW cW, .int .i64 qu, .int .i64 (a : Int), .bool paid, .slice pD nD cD, .slice pL nL cL]
theorem slr_rep {R : Type} {m n g : Nat} {enc : R → List Value} {w : World} {t : TypeId} {z : List Value} {rs : List R} (hg : w.heap[g]? = some (C t ((List.replicate n z).flatten))) (hn : rs.length = n) (hz : ∀ r ∈ rs, enc r = z) (hm : z.length = m) : SlR m enc w (some ⟨g, 0, none⟩) n rs := by
  have e : (List.replicate n z) = rs.map enc := by
    apply List.ext_getElem
    · simp [hn]
    · intro i h1 h2
      simp only [List.getElem_replicate, List.getElem_map]
      exact (hz _ (List.getElem_mem _)).symm
  rw [e] at hg
  have h1 : w.heap[g]? = some (C t ((rs.map enc).flatten ++ [])) := by rw [List.append_nil]; exact hg
  exact SlR.rowN h1 (Rows.flat fun r hr => by rw [hz r hr]; exact hm) hn.symm
theorem new_rd {w : World} {p : Option Addr} {n gD gL : Nat} {ws : List Int} {tD tL : TypeId} (ln : n = ws.length) (hs : SlR 1 encN w p n ws) (hD : w.heap[gD]? = some (C tD ((List.replicate n [Value.int .i64 0]).flatten))) (hL : w.heap[gL]? = some (C tL ((List.replicate n [Value.slice none 0 0]).flatten))) : FRd w p (some ⟨gD, 0, none⟩) (some ⟨gL, 0, none⟩) n (ws.map PR.new) where
  ws := SlR.mapE PR.new hs (by intros; rfl)
  ds := slr_rep hD (by simp [ln]) (by simp) rfl
  ls := slr_rep hL (by simp [ln]) (by simp) rfl
  row := by
    intro r hr
    obtain ⟨x, _, rfl⟩ := List.mem_map.1 hr
    exact ⟨SlR.nil, Nat.le_refl _⟩
theorem NewFair_c {p : Option Addr} {n c : Nat} {ws : List Int} {qu : Int} (w0 : World) (hs : SlR 1 encN w0 p n ws) (hn : n ≤ 8) (h0 : 1 ≤ n) : Ret Try.prog 31 [.slice p n c, .int .i64 qu] w0 fun v w' => ∃ pD pL Q rs, v = .agg (FV p n c qu 0 false pD n n pL n n).toArray ∧ rs.map PR.abs = ws.map (fun w => ⟨w, 0, []⟩) ∧ Hp w0 [] w' Q ∧ ∀ w, Has w Q → SlR 1 encN w p n ws → FRd w p pD pL n rs := by
  have ln := hs.len
  refine enterR Try.func31 rfl Try.ntmps31 rfl ?_
  have hp := Hp.start w0
  repeat' (first | ((with_reducible refine gW ?_); first | (refine W_regionG (id := 1) [9] hp (by kernel_rfl) ?_; clear hp; (try clear w); intro w hp)) | ((with_reducible refine rg_id ?_); first | (refine RX_pure (rid := 1) (fuel := 9) (m := 0) 0 1 rfl rfl (by kernel_rfl) (by kernel_rfl) (by kernel_rfl) (by kernel_rfl) (by kernel_rfl) (by repeat (first | exact NoP.post | assumption | apply NoP.thn | apply NoP.inB)) ?_) | (refine RX_pure (rid := 1) (fuel := 8) (m := 1) 1 3 rfl rfl (by kernel_rfl) (by kernel_rfl) (by kernel_rfl) (by kernel_rfl) (by kernel_rfl) (by repeat (first | exact NoP.post | assumption | apply NoP.thn | apply NoP.inB)) ?_) | (refine RX_pure (rid := 1) (fuel := 7) (m := 3) 2 7 rfl rfl (by kernel_rfl) (by kernel_rfl) (by kernel_rfl) (by kernel_rfl) (by kernel_rfl) (by repeat (first | exact NoP.post | assumption | apply NoP.thn | apply NoP.inB)) ?_) | (refine RX_pure (rid := 1) (fuel := 6) (m := 7) 3 15 rfl rfl (by kernel_rfl) (by kernel_rfl) (by kernel_rfl) (by kernel_rfl) (by kernel_rfl) (by repeat (first | exact NoP.post | assumption | apply NoP.thn | apply NoP.inB)) ?_) | (refine RX_pure (rid := 1) (fuel := 5) (m := 15) 5 47 rfl rfl (by kernel_rfl) (by kernel_rfl) (by kernel_rfl) (by kernel_rfl) (by kernel_rfl) (by repeat (first | exact NoP.post | assumption | apply NoP.thn | apply NoP.inB)) ?_) | (refine RX_pure (rid := 1) (fuel := 4) (m := 47) 6 111 rfl rfl (by kernel_rfl) (by kernel_rfl) (by kernel_rfl) (by kernel_rfl) (by kernel_rfl) (by repeat (first | exact NoP.post | assumption | apply NoP.thn | apply NoP.inB)) ?_) | (refine RX_two (rid := 1) (fuel := 3) (m := 111) 4 7 127 239 (by kernel_rfl) rfl (by kernel_rfl) rfl (by kernel_rfl) (by repeat (first | exact NoP.post | assumption | apply NoP.thn | apply NoP.inB)) ?_ ?_) | (refine RX_one (rid := 1) (fuel := 2) (m := 239) 4 255 (by kernel_rfl) rfl (by kernel_rfl) (by repeat (first | exact NoP.post | assumption | apply NoP.thn | apply NoP.inB)) ?_) | (refine RX_one (rid := 1) (fuel := 2) (m := 127) 7 255 (by kernel_rfl) rfl (by kernel_rfl) (by repeat (first | exact NoP.post | assumption | apply NoP.thn | apply NoP.inB)) ?_) | (refine RX_pure (rid := 1) (fuel := 1) (m := 255) 8 511 rfl rfl (by kernel_rfl) (by kernel_rfl) (by kernel_rfl) (by kernel_rfl) (by kernel_rfl) (by repeat (first | exact NoP.post | assumption | apply NoP.thn | apply NoP.inB)) ?_) | (refine RX_one (rid := 1) (fuel := 0) (m := 511) 9 1023 (by kernel_rfl) rfl (by kernel_rfl) (by repeat (first | exact NoP.post | assumption | apply NoP.thn | apply NoP.inB)) ?_) | (refine RG_done (rid := 1) (fuel := 0) (m := 1023) (by kernel_rfl) ?_)) | ((with_reducible refine rk_id ?_); first | (refine RK_hp (rid := 1) (m := 127) (by first | exact hp | exact Hp.sub hp (by repeat (first | exact List.Sublist.refl _ | exact List.nil_sublist _ | apply List.Sublist.cons_cons | apply List.Sublist.cons))) ?_) | (refine RK_hp (rid := 1) (m := 239) (by first | exact hp | exact Hp.sub hp (by repeat (first | exact List.Sublist.refl _ | exact List.nil_sublist _ | apply List.Sublist.cons_cons | apply List.Sublist.cons))) ?_) | (refine RK_hp (rid := 1) (m := 255) (by first | exact hp | exact Hp.sub hp (by repeat (first | exact List.Sublist.refl _ | exact List.nil_sublist _ | apply List.Sublist.cons_cons | apply List.Sublist.cons))) ?_) | (refine RK_no (rid := 1) (m := 1023) (by kernel_rfl) ?_)) | (refine st1 ?_) | (refine st2 ?_ ?_) | (clear hp; (try clear w); intro (w : World) (hp : Hp _ _ _ _)) | (clear hp; (try clear w); intro (gn : Nat) (w : World) (hp : Hp _ _ _ _)) | (intro h; (try (exfalso; omega))))
  · rename_i g0 g1
    (apply r_c hp; rfl; infer_instance; infer_instance; rfl; (exact lk_auto); rfl; refine ⟨_, rfl, ?_⟩)
    exact ⟨some ⟨g1, 0, none⟩, some ⟨gn, 0, none⟩, [_, _], ws.map PR.new, rfl, by simp, hp.sub (L' := [_, _]) (List.Sublist.cons_cons _ (List.Sublist.cons_cons _ (List.nil_sublist _))), fun w hq h => new_rd ln h (hq _ (List.mem_cons_of_mem _ List.mem_cons_self)) (hq _ List.mem_cons_self)⟩
  · rename_i g0 g1
    (apply r_c hp; rfl; infer_instance; infer_instance; rfl; (exact lk_auto); rfl; refine ⟨_, rfl, ?_⟩)
    exact ⟨some ⟨gn, 0, none⟩, some ⟨g1, 0, none⟩, [_, _], ws.map PR.new, rfl, by simp, hp.sub (L' := [_, _]) (List.Sublist.cons_cons _ (List.Sublist.cons_cons _ (List.nil_sublist _))), fun w hq h => new_rd ln h (hq _ List.mem_cons_self) (hq _ (List.mem_cons_of_mem _ List.mem_cons_self))⟩
theorem FRd.cut {w : World} {pW pD pL : Option Addr} {n : Nat} {rs : List PR} (h : FRd w pW pD pL n rs) : n = rs.length := h.ws.len
theorem Hp.toBack {w0 w : World} {fp : List Nat} {x y : Nat × Obj} {Q A B : Mem} (h : Hp w0 fp w (Q ++ (x :: y :: (A ++ B)))) : Hp w0 fp w (x :: y :: (A ++ (Q ++ B))) := by
  refine h.perm ?_
  have e1 : (x :: y :: (A ++ (Q ++ B))) = ([x, y] ++ A) ++ Q ++ B := by simp
  have e2 : Q ++ (x :: y :: (A ++ B)) = Q ++ ([x, y] ++ A) ++ B := by simp
  rw [e1, e2]
  exact (List.perm_append_comm (l₁ := [x, y] ++ A) (l₂ := Q)).append_right B
theorem pQ_get {qs : List FQ} {k : Int} {s : ByteArray} {i : Nat} {x : FQ} (hk : 0 ≤ k ∧ k < (qs.length : Int)) (hx : qs[i]? = some x) : (pQ qs k s)[i]? = some (if (i : Int) = k then ⟨x.w, x.d, x.ss ++ [s]⟩ else x) := by
  unfold pQ
  have hlt : k.toNat < qs.length := by omega
  rw [List.getElem?_eq_getElem hlt]
  dsimp only
  rw [List.getElem?_set]
  by_cases h : (i : Int) = k
  · have h1 : k.toNat = i := by omega
    subst h1
    rw [if_pos rfl, if_pos hlt, if_pos h]
    rw [List.getElem?_eq_getElem hlt] at hx
    injection hx with hx; rw [hx]
  · rw [if_neg (by omega), if_neg h]; exact hx
theorem pQ_wd {qs : List FQ} {k : Int} {s : ByteArray} : (pQ qs k s).map (fun x => (x.w, x.d)) = qs.map (fun x => (x.w, x.d)) := by
  unfold pQ
  split
  · rename_i x hx
    rw [List.map_set]
    obtain ⟨hlt, he⟩ := List.getElem?_eq_some_iff.1 hx
    apply List.ext_getElem?
    intro i
    rw [List.getElem?_set]
    split
    · rename_i h; subst h; simp [hx, hlt, he]
    · rfl
  · rfl
theorem SlR.by {R S : Type} {m n : Nat} {enc : R → List Value} {enc' : S → List Value} {w : World} {p : Option Addr} {rs : List R} {ss : List S} (h : SlR m enc w p n rs) (he : rs.map enc = ss.map enc') : SlR m enc' w p n ss :=
  ⟨by have := congrArg List.length he; simp at this; rw [← this]; exact h.len, fun i r hr => by
    have h1 := congrArg (·[i]?) he
    simp only [List.getElem?_map, hr, Option.map_some] at h1
    cases hx : rs[i]? with
    | none => rw [hx] at h1; cases h1
    | some x =>
      rw [hx] at h1
      injection h1 with h1
      rw [← h1]; exact h.get i x hx⟩
theorem pQ_len {qs : List FQ} {k : Int} {s : ByteArray} : (pQ qs k s).length = qs.length := by unfold pQ; split <;> simp
set_option maxHeartbeats 2000000 in
theorem RPut_c {pW pD pL : Option Addr} {n cW cD cL a : Nat} {qu k : Int} {paid : Bool} {s : ByteArray} {rs : List PR} (w0 : World) (hrd : FRd w0 pW pD pL n rs) (hn : n ≤ 8) (hk : 0 ≤ k ∧ k < (n : Int)) (hl : ∀ r ∈ rs, r.ss.length ≤ 64) : Ret Try.prog 34 [.agg (FV pW n cW qu a paid pD n cD pL n cL).toArray, .int .i64 k, .string s] w0 fun v w' => ∃ pL' cL' Q rs', v = .agg (FV pW n cW qu a paid pD n cD pL' n cL').toArray ∧ rs'.map PR.abs = pQ (rs.map PR.abs) k s ∧ Hp w0 [] w' Q ∧ ∀ w, Has w Q → FRd w pW pD pL n rs → FRd w pW pD pL' n rs' := by
  have ln := hrd.cut
  refine enterR Try.func34 rfl Try.ntmps34 rfl ?_
  have hp := Hp.start w0
  repeat' (first | (rename_i gf; refine W_loopS (σ := Nat × (Option Addr × Nat × Mem) × (Mem × List PR)) [7, 8, 9, 10, 11, 12, 13, 14, 15, 16, 17, 18, 19, 20, 21, 22, 23, 24, 25, 26, 27, 28, 29, 30, 31, 32, 33, 34] (fun s => [(8, .int .i64 (s.1 : Int)), (7, .slice s.2.1.1 s.1 s.2.1.2.1)]) (fun s => (gn, C 64 (FV none 0 0 0 0 false none 0 0 none 0 0)) :: (gf, C 64 (FV pW n cW qu a paid pD n cD pL n cL)) :: (s.2.1.2.2 ++ s.2.2.1)) (fun z => z.1 ≤ n ∧ Own 1 PR.hd 58 z.2.1.1 z.2.1.2.1 z.2.1.2.2 z.2.2.2 ∧ z.2.2.2.length = z.1 ∧ z.2.2.2.map PR.abs = (pQ (rs.map PR.abs) k s).take z.1 ∧ ∀ w, Has w z.2.2.1 → ∀ r ∈ z.2.2.2, SlR 1 encS w r.p r.ss.length r.ss ∧ r.ss.length ≤ r.c) (fun s => n - s.1) (0, (none, 0, []), ([], [])) ⟨rfl, rfl, trivial⟩ hp ⟨by dsimp only; omega, Own.nil, rfl, rfl, by simp⟩ ?_; clear hp; rintro ⟨i, ⟨pw, cw, QW⟩, ⟨QR, hs⟩⟩ g2 w hp ⟨hi, hwo, hhl, habs, hrows⟩; dsimp only at hi hwo hhl habs hrows hp ⊢; rcases Nat.lt_or_ge i n with hin | hin; (obtain ⟨r, hr⟩ : ∃ z, rs[i]? = some z := ⟨_, List.getElem?_eq_getElem (by omega)⟩); have hrl := hl r (List.mem_of_getElem? hr)) | ((with_reducible refine g_ia ?_); apply o_iaRk hrd.ls; infer_instance; infer_instance; rfl; rfl; (first | omega | (focus (simp only [IntKind.bits]; omega)) | (focus (simp; done)) | (focus (simp; omega))); exact hr; rfl; intro adr hat) | (((with_reducible refine g_call ?_); apply o_appN [] r.ss.length hp (Own.nil (R := ByteArray) (m := 1) (enc := encS)) ((hrd.row r (List.mem_of_getElem? hr)).1.hp hp); infer_instance; infer_instance; infer_instance; infer_instance; rfl; (first | omega | (focus (simp only [IntKind.bits]; omega)) | (focus (simp; done)) | (focus (simp; omega))); rfl; rfl; rfl; (intros; rfl); (intros; rfl); ((intro r _ v hv; simp only [List.mem_cons, List.not_mem_nil, or_false] at hv; rcases hv with rfl | rfl | rfl | rfl | rfl | rfl | rfl | rfl | rfl | rfl <;> rfl)); (first | omega | (focus (simp only [IntKind.bits]; omega)) | (focus (simp; done)) | (focus (simp; omega))); (first | omega | (focus (simp only [IntKind.bits]; omega)) | (focus (simp; done)) | (focus (simp; omega))); rfl; clear hp; (try clear w); intro p1 c1 Q1 w hown1 hp); simp only [List.nil_append] at hown1; replace hp := Hp.toBack hp) | (((with_reducible refine g_call ?_); apply o_appN (_ :: _ :: _ :: QW) ((r.ss ++ [s]).length) hp hown1 (SlR.blk (rs := [_]) hp (lk 0 rfl) rfl (by simp)); infer_instance; infer_instance; infer_instance; infer_instance; rfl; (first | omega | (focus (simp only [IntKind.bits]; omega)) | (focus (simp; done)) | (focus (simp; omega))); rfl; rfl; rfl; (intros; rfl); (intros; rfl); ((intro r _ v hv; simp only [List.mem_cons, List.not_mem_nil, or_false] at hv; rcases hv with rfl | rfl | rfl | rfl | rfl | rfl | rfl | rfl | rfl | rfl <;> rfl)); (first | omega | (focus (simp only [IntKind.bits]; omega)) | (focus (simp; done)) | (focus (simp; omega))); (first | omega | (focus (simp only [IntKind.bits]; omega)) | (focus (simp; done)) | (focus (simp; omega))); rfl; clear hp; (try clear w); intro p2 c2 Q2 w hown2 hp); replace hp := hp.sub (List.Sublist.cons _ (List.Sublist.refl _))) | ((with_reducible refine g_call ?_); apply o_appN [_, _, _] (i + 1) hp hwo (SlR.blk (rs := [({ w := r.w, d := r.d, p := p2, c := c2, Q := [], ss := r.ss ++ [s] } : PR)]) hp (lk 0 rfl) rfl (by simp)); infer_instance; infer_instance; infer_instance; infer_instance; rfl; (first | omega | (focus (simp only [IntKind.bits]; omega)) | (focus (simp; done)) | (focus (simp; omega))); rfl; rfl; rfl; (intros; rfl); (intros; rfl); ((intro r _ v hv; simp only [List.mem_cons, List.not_mem_nil, or_false] at hv; rcases hv with rfl | rfl | rfl | rfl | rfl | rfl | rfl | rfl | rfl | rfl <;> rfl)); (first | omega | (focus (simp only [IntKind.bits]; omega)) | (focus (simp; done)) | (focus (simp; omega))); (first | omega | (focus (simp only [IntKind.bits]; omega)) | (focus (simp; done)) | (focus (simp; omega))); rfl; clear hp; (try clear w); intro p3 c3 Q3 w hown3 hp) | ((with_reducible refine g_call ?_); apply o_appN [_, _, _] (i + 1) hp hwo (SlR.blk (rs := [({ w := r.w, d := r.d, p := p1, c := c1, Q := [], ss := r.ss } : PR)]) hp (lk 0 rfl) rfl (by simp)); infer_instance; infer_instance; infer_instance; infer_instance; rfl; (first | omega | (focus (simp only [IntKind.bits]; omega)) | (focus (simp; done)) | (focus (simp; omega))); rfl; rfl; rfl; (intros; rfl); (intros; rfl); ((intro r _ v hv; simp only [List.mem_cons, List.not_mem_nil, or_false] at hv; rcases hv with rfl | rfl | rfl | rfl | rfl | rfl | rfl | rfl | rfl | rfl <;> rfl)); (first | omega | (focus (simp only [IntKind.bits]; omega)) | (focus (simp; done)) | (focus (simp; omega))); (first | omega | (focus (simp only [IntKind.bits]; omega)) | (focus (simp; done)) | (focus (simp; omega))); rfl; clear hp; (try clear w); intro p3 c3 Q3 w hown3 hp) | (refine st1 ?_) | (refine st2 ?_ ?_) | (clear hp; (try clear w); intro (w : World) (hp : Hp _ _ _ _)) | (clear hp; (try clear w); intro (gn : Nat) (w : World) (hp : Hp _ _ _ _)) | (intro h; (try (exfalso; omega))))
  · (have hx : (rs.map PR.abs)[i]? = some r.abs := (by simp [hr]); have hpq := pQ_get (s := s) (by simpa [ln] using hk) hx; refine ⟨(i + 1, (p3, c3, Q3), (Q2 ++ QR, hs ++ [({ w := r.w, d := r.d, p := p2, c := c2, Q := [], ss := (r.ss ++ [s]) } : PR)])), ⟨(by (repeat (first | exact agree_base rfl | (with_reducible exact agree_refl) | (exact agree_eq (by assumption)) | (refine agree_upd rfl ?_) | (refine agree_baseT rfl rfl ?_)))), ⟨rfl, rfl, trivial⟩, hp.sub (List.Sublist.cons _ (List.Sublist.refl _)), ⟨by dsimp only; omega, hown3, by simp [hhl], ?_, ?_⟩⟩, by dsimp only; omega⟩)
    · dsimp only
      rw [List.take_add_one, hpq, List.map_append, habs, if_pos ‹_›]; rfl
    · (dsimp only; intro w hw x hx; rcases List.mem_append.1 hx with h1 | h1; (exact hrows w (fun z hz => hw z (List.mem_append_right _ hz)) x h1); (simp at h1; subst h1; exact ⟨hown2.slr (by intros; rfl) (fun z hz => hw z (List.mem_append_left _ hz)), hown2.len⟩))
  · (have hx : (rs.map PR.abs)[i]? = some r.abs := (by simp [hr]); have hpq := pQ_get (s := s) (by simpa [ln] using hk) hx; refine ⟨(i + 1, (p3, c3, Q3), (Q1 ++ QR, hs ++ [({ w := r.w, d := r.d, p := p1, c := c1, Q := [], ss := r.ss } : PR)])), ⟨(by (repeat (first | exact agree_base rfl | (with_reducible exact agree_refl) | (exact agree_eq (by assumption)) | (refine agree_upd rfl ?_) | (refine agree_baseT rfl rfl ?_)))), ⟨rfl, rfl, trivial⟩, hp.sub (List.Sublist.cons _ (List.Sublist.refl _)), ⟨by dsimp only; omega, hown3, by simp [hhl], ?_, ?_⟩⟩, by dsimp only; omega⟩)
    · dsimp only
      rw [List.take_add_one, hpq, List.map_append, habs, if_neg ‹_›]; rfl
    · (dsimp only; intro w hw x hx; rcases List.mem_append.1 hx with h1 | h1; (exact hrows w (fun z hz => hw z (List.mem_append_right _ hz)) x h1); (simp at h1; subst h1; exact ⟨hown1.slr (by intros; rfl) (fun z hz => hw z (List.mem_append_left _ hz)), hown1.len⟩))
  · obtain rfl : i = n := by omega
    (apply r_c hp; rfl; infer_instance; infer_instance; rfl; (exact lk_auto); rfl; refine ⟨_, rfl, ?_⟩)
    refine ⟨pw, cw, QW ++ QR, hs, rfl, ?_, hp.sub (List.Sublist.cons _ (List.Sublist.cons _ (List.Sublist.refl _))), fun w hw h => ?_⟩
    · rw [habs, List.take_of_length_le (by rw [pQ_len]; simp [ln])]
    · have hrow := hrows w fun z hz => hw z (List.mem_append_right _ hz)
      have hmp : hs.map PR.abs = pQ (rs.map PR.abs) k s := by rw [habs, List.take_of_length_le (by rw [pQ_len]; simp [ln])]
      have hwd := pQ_wd (qs := rs.map PR.abs) (k := k) (s := s)
      rw [← hmp] at hwd
      refine ⟨SlR.by h.ws ?_, SlR.by h.ds ?_, hwo.slrN (by intros; rfl) (fun z hz => hw z (List.mem_append_left _ hz)) hhl.symm, hrow⟩
      · simpa [List.map_map, Function.comp_def] using congrArg (List.map fun x : Int × Int => ([.int .i64 x.1] : List Value)) hwd.symm
      · simpa [List.map_map, Function.comp_def] using congrArg (List.map fun x : Int × Int => ([.int .i64 x.2] : List Value)) hwd.symm
end Go.Proofs.Ytipjhbkjgidljaa
