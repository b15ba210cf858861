/- The contract of fair.Take. -/
import Derived.Test.YtipjhbkjgidljaaFai4
namespace Go.Proofs.Ytipjhbkjgidljaa
open Go Go.RowKit E
attribute [local irreducible] E.W E.WL E.thn E.inB E.post E.QL E.bt ByteArray.extract E.RG E.RK
set_option linter.unusedVariables false
theorem Hp.swapIn {w0 w : World} {fp : List Nat} {x y : Nat × Obj} {W1 Q Q' W2 : Mem} (h : Hp w0 fp w (Q' ++ (x :: y :: (W1 ++ (Q ++ W2))))) : Hp w0 fp w (x :: y :: (W1 ++ (Q' ++ W2))) := by
  have h1 : Hp w0 fp w (Q' ++ (x :: y :: (W1 ++ W2))) := h.sub (List.Sublist.append_left (List.Sublist.cons_cons _ (List.Sublist.cons_cons _ (List.Sublist.append_left (List.sublist_append_right _ _) _))) _)
  refine h1.perm ?_
  have e1 : (x :: y :: (W1 ++ (Q' ++ W2))).Perm ([x, y] ++ W1 ++ Q' ++ W2) := by simp
  refine e1.trans ?_
  have e2 : (Q' ++ (x :: y :: (W1 ++ W2))) = Q' ++ ([x, y] ++ W1) ++ W2 := by simp
  rw [e2]
  exact (List.perm_append_comm (l₁ := [x, y] ++ W1) (l₂ := Q')).append_right W2
theorem get_set {rows : List PR} {a : Nat} {r : PR} (h : a < rows.length) : (rows.set a r)[a]? = some r := by simp [h]
theorem row_cut {rows : List PR} {a adr : Nat} {r : PR} {pad : List Value} (hr : rows[a]? = some r) (ha : adr = 0 + a * 3) : Cut ((rows.map PR.enc).flatten ++ pad) adr r.enc := by
  subst ha; exact Rows.flat (by intros; rfl) a r hr
abbrev fS (a : Nat) (paid : Bool) (rows : List PR) : FS := ⟨rows.map PR.abs, a, paid⟩
abbrev LQ (gq ga N ca : Nat) (qu : Int) (a : Nat) (paid : Bool) : Nat × Obj := (gq, C 87 [.slice (some ⟨ga, 0, none⟩) N ca, .int .i64 qu, .int .i64 (a : Int), .bool paid])
theorem fStep_empty {qu : Int} {b : Nat} {pd : Bool} {rs : List PR} {r : PR} (hr : rs[b]? = some r) (h : r.ss = []) : fStep qu (fS b pd rs) = .inl (fS ((b + 1) % rs.length) false rs) := by
  unfold fStep fNext
  simp [hr, h]
abbrev dE (qu : Int) (pd : Bool) (r : PR) : Int := if pd then r.d else r.d + r.w * qu
theorem fStep_leave {qu : Int} {b : Nat} {pd : Bool} {rs rs' : List PR} {r : PR} {y : ByteArray} {t : List ByteArray} (hr : rs[b]? = some r) (h : r.ss = y :: t) (hlt : dE qu pd r < (y.size : Int)) (he : rs'.map PR.abs = (rs.map PR.abs).set b ⟨r.w, dE qu pd r, r.ss⟩) : fStep qu (fS b pd rs) = .inl (fS ((b + 1) % rs.length) false rs') := by
  unfold fStep fNext fD
  simp only [List.getElem?_map, hr, Option.map_some, h, List.length_map]
  rw [if_pos hlt, ← h]
  show _ = Sum.inl (⟨rs'.map PR.abs, _, _⟩ : FS)
  rw [he]
theorem fStep_last {qu : Int} {b : Nat} {pd : Bool} {rs rs' : List PR} {r : PR} {y : ByteArray} (hr : rs[b]? = some r) (h : r.ss = [y]) (hlt : ¬ dE qu pd r < (y.size : Int)) (he : rs'.map PR.abs = (rs.map PR.abs).set b ⟨r.w, 0, []⟩) : fStep qu (fS b pd rs) = .inr (fS ((b + 1) % rs.length) false rs', b, y) := by
  unfold fStep fNext fD
  simp only [List.getElem?_map, hr, Option.map_some, h, List.length_map]
  rw [if_neg hlt]
  show _ = Sum.inr ((⟨rs'.map PR.abs, _, _⟩ : FS), _)
  rw [he]; rfl
theorem fStep_take {qu : Int} {b : Nat} {pd : Bool} {rs rs' : List PR} {r : PR} {y : ByteArray} {t : List ByteArray} (hr : rs[b]? = some r) (h : r.ss = y :: t) (ht : t ≠ []) (hlt : ¬ dE qu pd r < (y.size : Int)) (he : rs'.map PR.abs = (rs.map PR.abs).set b ⟨r.w, dE qu pd r - y.size, t⟩) : fStep qu (fS b pd rs) = .inr (fS b true rs', b, y) := by
  unfold fStep fNext fD
  simp only [List.getElem?_map, hr, Option.map_some, h, List.length_map]
  rw [if_neg hlt, if_neg ht]
  show _ = Sum.inr ((⟨rs'.map PR.abs, _, _⟩ : FS), _)
  rw [he]
set_option maxHeartbeats 2000000 in
theorem take_round {w0 w : World} {f : Fr} {fp : List Nat} {Q : Exit → Fr → World → Prop} {gq ga ca b : Nat} {qu : Int} {pd : Bool} {pad : List Value} {rs : List PR} {c : Code} (hc : bk Try.f32 1 = some c) (hf : Fits f [(0, .pointer (some ⟨gq, 0, none⟩))]) (hQn : NoP Q) (ho : RowsOk rs) (hg : FGood qu (fS b pd rs)) (hp : Hp w0 fp w (FL gq ga ca qu b pd pad rs))
    (hL : ∀ g rs' b' w', fStep qu (fS b pd rs) = .inl (fS b' false rs') → RowsOk rs' → Hp w0 fp w' (FL gq ga ca qu b' false pad rs') → Q .normal (updAll [] (over [2, 3, 4, 5, 6, 7, 14, 15, 16, 17, 18, 19, 20, 21, 22, 23, 24, 25, 26, 27, 28, 29, 30, 31, 32, 33, 34, 35, 36, 37, 38, 39, 40, 41, 42, 43, 44, 45, 46, 47, 48, 49, 50, 51, 52, 53, 54, 55, 56, 57, 58, 59, 60, 61, 62, 63, 64, 65, 66, 67, 68, 69, 70, 71, 72, 73, 74, 75, 76, 77, 78, 79, 80, 81, 82, 83, 84, 85, 86, 87, 88, 89, 90, 91, 92, 93, 94, 95, 96, 97, 98, 99, 100, 101, 102, 103, 104] f g)) w')
    (hR : ∀ F k y rs' b' pd' w', fStep qu (fS b pd rs) = .inr (fS b' pd' rs', k, y) → RowsOk rs' → Hp w0 fp w' (FL gq ga ca qu b' pd' pad rs') → F 2 = .int .i64 ((k : Nat) : Int) → F 3 = .string y → F 4 = .bool true → Q .ret F w') : E.W Try.prog Try.f32.ntmps (.block 1 c) Q f w := by
  have hb : b < rs.length := by simpa using hg.at_
  have hlen := hg.len
  simp only [List.length_map] at hlen
  obtain ⟨r, hr⟩ : ∃ z, rs[b]? = some z := ⟨_, List.getElem?_eq_getElem hb⟩
  have hro := ho r (List.mem_of_getElem? hr)
  obtain ⟨hw, hd, hl, hy, hbd⟩ := hg.q b r.abs (by simp [hr])
  have hwq := wq_bd hw hg.qu
  have hdb := hg.d (x := r.abs) (by simp [hr])
  dsimp only at hw hd hl hy hbd hwq
  refine W_piece hc rfl hf ?_; intro hfe
  cases hss : r.ss with
  | nil =>
    have hz : r.ss.length = 0 := by rw [hss]; rfl
    repeat' (first | ((with_reducible refine gq_ia ?_); apply q_iaKn (Rows.flat (pad := pad) (m := 3) (enc := PR.enc) (by intros; rfl)); infer_instance; infer_instance; rfl; rfl; (first | omega | (focus (simp only [IntKind.bits]; omega)) | (focus (simp; done)) | (focus (simp; omega))); exact hr; (first | rfl | (first | omega | (focus (simp only [IntKind.bits]; omega)) | (focus (simp; done)) | (focus (simp; omega)))); rfl; intro adr hadr hcut) | (((with_reducible refine g_call ?_); refine o_call (leave_c (hp.kn.sub (List.Sublist.cons_cons _ (List.nil_sublist _))) hb (by omega)) rfl rfl ?_); rintro v w ⟨rfl, hq2⟩; replace hp := Hp.call [] (Q := [_]) hp hq2; clear hq2) | (refine st1 ?_) | (refine st2 ?_ ?_) | (clear hp; (try clear w); intro (w : World) (hp : Hp _ _ _ _)) | (clear hp; (try clear w); intro (gn : Nat) (w : World) (hp : Hp _ _ _ _)) | (intro h; (try (exfalso; omega))))
    exact leave (fun g => hL g rs _ w (fStep_empty hr hss) ho hp) (by (repeat (first | exact agree_base rfl | (with_reducible exact agree_refl) | (exact agree_eq (by assumption)) | (refine agree_upd rfl ?_) | (refine agree_baseT rfl rfl ?_)))) trivial
  | cons y t =>
    have hz : r.ss.length = t.length + 1 := by rw [hss]; rfl
    have hy0 : r.ss[0]? = some y := by rw [hss]; rfl
    have hdr : r.ss.drop 1 = t := by rw [hss]; rfl
    have hysz := hy y (by rw [hss]; simp)
    have hD : 0 ≤ dE qu pd r ∧ dE qu pd r ≤ 151500 := hdb
    clear hdb
    repeat' (first | (refine W_cutS (w0 := w0) (fp := fp) (x := Code.seq (Code.region 6 _ _) (Code.cond _ _ _)) [31, 32, 33, 34, 35, 36, 37, 38, 39, 40, 41, 42, 43, 44, 45, 46, 47, 48, 49, 50, 51, 52, 53, 54] (fun _ : Unit => []) (fun _ => FL gq ga ca qu b true pad (rs.set b ({ r with d := dE qu pd r } : PR))) (fun _ => True) ?_ ?_; rotate_left; (clear hp; rintro _ g2 w hp -; rw [FL_set hr] at hp; have hr1 : (rs.set b ({ r with d := dE qu pd r } : PR))[b]? = some ({ r with d := dE qu pd r } : PR) := get_set hb; have hcut1 : Cut _ _ [.int .i64 r.w, .int .i64 (dE qu pd r), .slice r.p r.ss.length r.c] := row_cut (pad := pad) hr1 (by assumption)); rotate_left) | ((with_reducible refine gq_ia ?_); apply q_iaKn (Rows.flat (pad := pad) (m := 3) (enc := PR.enc) (by intros; rfl)); infer_instance; infer_instance; rfl; rfl; (first | omega | (focus (simp only [IntKind.bits]; omega)) | (focus (simp; done)) | (focus (simp; omega))); exact hr; (first | rfl | (first | omega | (focus (simp only [IntKind.bits]; omega)) | (focus (simp; done)) | (focus (simp; omega)))); rfl; intro adr hadr hcut) | ((with_reducible refine gW ?_); first | (refine W_regionG (id := 7) [16] hp (by kernel_rfl) ?_; clear hp; (try clear w); intro w hp)) | ((with_reducible refine rg_id ?_); first | (refine RX_pure (rid := 7) (fuel := 16) (m := 0) 0 1 rfl rfl (by kernel_rfl) (by kernel_rfl) (by kernel_rfl) (by kernel_rfl) (by kernel_rfl) (by repeat (first | exact NoP.post | assumption | apply NoP.thn | apply NoP.inB)) ?_) | (refine RX_pure (rid := 7) (fuel := 15) (m := 1) 1 3 rfl rfl (by kernel_rfl) (by kernel_rfl) (by kernel_rfl) (by kernel_rfl) (by kernel_rfl) (by repeat (first | exact NoP.post | assumption | apply NoP.thn | apply NoP.inB)) ?_) | (refine RX_pure (rid := 7) (fuel := 14) (m := 3) 2 7 rfl rfl (by kernel_rfl) (by kernel_rfl) (by kernel_rfl) (by kernel_rfl) (by kernel_rfl) (by repeat (first | exact NoP.post | assumption | apply NoP.thn | apply NoP.inB)) ?_) | (refine RX_pure (rid := 7) (fuel := 13) (m := 7) 4 23 rfl rfl (by kernel_rfl) (by kernel_rfl) (by kernel_rfl) (by kernel_rfl) (by kernel_rfl) (by repeat (first | exact NoP.post | assumption | apply NoP.thn | apply NoP.inB)) ?_) | (refine RX_pure (rid := 7) (fuel := 12) (m := 23) 5 55 rfl rfl (by kernel_rfl) (by kernel_rfl) (by kernel_rfl) (by kernel_rfl) (by kernel_rfl) (by repeat (first | exact NoP.post | assumption | apply NoP.thn | apply NoP.inB)) ?_) | (refine RX_pure (rid := 7) (fuel := 11) (m := 55) 6 119 rfl rfl (by kernel_rfl) (by kernel_rfl) (by kernel_rfl) (by kernel_rfl) (by kernel_rfl) (by repeat (first | exact NoP.post | assumption | apply NoP.thn | apply NoP.inB)) ?_) | (refine RX_pure (rid := 7) (fuel := 10) (m := 119) 8 375 rfl rfl (by kernel_rfl) (by kernel_rfl) (by kernel_rfl) (by kernel_rfl) (by kernel_rfl) (by repeat (first | exact NoP.post | assumption | apply NoP.thn | apply NoP.inB)) ?_) | (refine RX_pure (rid := 7) (fuel := 9) (m := 375) 9 887 rfl rfl (by kernel_rfl) (by kernel_rfl) (by kernel_rfl) (by kernel_rfl) (by kernel_rfl) (by repeat (first | exact NoP.post | assumption | apply NoP.thn | apply NoP.inB)) ?_) | (refine RX_pure (rid := 7) (fuel := 8) (m := 887) 10 1911 rfl rfl (by kernel_rfl) (by kernel_rfl) (by kernel_rfl) (by kernel_rfl) (by kernel_rfl) (by repeat (first | exact NoP.post | assumption | apply NoP.thn | apply NoP.inB)) ?_) | (refine RX_load (rid := 7) (fuel := 7) (m := 1911) 3 1919 [13, 14, 15, 16] rfl rfl (by kernel_rfl) (by kernel_rfl) (by kernel_rfl) (by kernel_rfl) (by kernel_rfl) (by kernel_rfl) (by kernel_rfl) (by repeat (first | exact NoP.post | assumption | apply NoP.thn | apply NoP.inB)) ?_) | (refine RX_load (rid := 7) (fuel := 6) (m := 1919) 7 2047 [12, 13, 14, 15, 16] rfl rfl (by kernel_rfl) (by kernel_rfl) (by kernel_rfl) (by kernel_rfl) (by kernel_rfl) (by kernel_rfl) (by kernel_rfl) (by repeat (first | exact NoP.post | assumption | apply NoP.thn | apply NoP.inB)) ?_) | (refine RX_load (rid := 7) (fuel := 5) (m := 2047) 11 4095 [12, 13, 14, 15, 16] rfl rfl (by kernel_rfl) (by kernel_rfl) (by kernel_rfl) (by kernel_rfl) (by kernel_rfl) (by kernel_rfl) (by kernel_rfl) (by repeat (first | exact NoP.post | assumption | apply NoP.thn | apply NoP.inB)) ?_) | (refine RX_pure (rid := 7) (fuel := 4) (m := 4095) 12 8191 rfl rfl (by kernel_rfl) (by kernel_rfl) (by kernel_rfl) (by kernel_rfl) (by kernel_rfl) (by repeat (first | exact NoP.post | assumption | apply NoP.thn | apply NoP.inB)) ?_) | (refine RX_pure (rid := 7) (fuel := 3) (m := 8191) 13 16383 rfl rfl (by kernel_rfl) (by kernel_rfl) (by kernel_rfl) (by kernel_rfl) (by kernel_rfl) (by repeat (first | exact NoP.post | assumption | apply NoP.thn | apply NoP.inB)) ?_) | (refine RX_pure (rid := 7) (fuel := 2) (m := 16383) 14 32767 rfl rfl (by kernel_rfl) (by kernel_rfl) (by kernel_rfl) (by kernel_rfl) (by kernel_rfl) (by repeat (first | exact NoP.post | assumption | apply NoP.thn | apply NoP.inB)) ?_) | (refine RX_pure (rid := 7) (fuel := 1) (m := 32767) 15 65535 rfl rfl (by kernel_rfl) (by kernel_rfl) (by kernel_rfl) (by kernel_rfl) (by kernel_rfl) (by repeat (first | exact NoP.post | assumption | apply NoP.thn | apply NoP.inB)) ?_) | (refine RX_one (rid := 7) (fuel := 0) (m := 65535) 16 131071 (by kernel_rfl) rfl (by kernel_rfl) (by repeat (first | exact NoP.post | assumption | apply NoP.thn | apply NoP.inB)) ?_) | (refine RG_done (rid := 7) (fuel := 0) (m := 131071) (by kernel_rfl) ?_)) | ((with_reducible refine rk_id ?_); first | (refine RK_no (rid := 7) (m := 131071) (by kernel_rfl) ?_)) | ((with_reducible refine g_store ?_); apply o_storeRowE (i := b) ({ r with d := r.d + r.w * qu } : PR) (rs.set b { r with d := r.d + r.w * qu }) hp; infer_instance; rfl; rfl; rfl; rfl; (exact lk 1 rfl); assumption; (intros; rfl); exact hr; rfl; rfl; (first | rfl | exact List.set_set ..); clear hp; (try clear w); intro w hp) | (((with_reducible refine g_call ?_); refine o_call (leave_c (hp.kn.sub (List.Sublist.cons_cons _ (List.nil_sublist _))) hb (by omega)) rfl rfl ?_); rintro v w ⟨rfl, hq2⟩; replace hp := Hp.call [] (Q := [_]) hp hq2; clear hq2) | ((with_reducible refine g_ia ?_); apply o_iaRk (hro.slr (w := w) (by intros; rfl) (fun z hz => hp.blk _ (List.mem_cons_of_mem _ (List.mem_cons_of_mem _ (List.mem_append_right _ (List.mem_append_left _ hz)))))); infer_instance; infer_instance; rfl; rfl; (first | omega | (focus (simp only [IntKind.bits]; omega)) | (focus (simp; done)) | (focus (simp; omega))); exact hy0; rfl; intro adr hat) | (((with_reducible refine g_store ?_); apply o_storeRowE (i := b) ({ r with d := dE qu pd r - (y.size : Int) } : PR) (rs.set b ({ r with d := dE qu pd r - (y.size : Int) } : PR)) hp; infer_instance; rfl; rfl; rfl; rfl; (exact lk 1 rfl); assumption; (intros; rfl); exact hr1; rfl; rfl; (first | rfl | exact List.set_set ..); clear hp; (try clear w); intro w hp); have hr2 : (rs.set b ({ r with d := dE qu pd r - (y.size : Int) } : PR))[b]? = some ({ r with d := dE qu pd r - (y.size : Int) } : PR) := get_set hb; have hcut2 : Cut _ _ [.int .i64 r.w, .int .i64 (dE qu pd r - (y.size : Int)), .slice r.p r.ss.length r.c] := row_cut (pad := pad) hr2 (by assumption)) | (((with_reducible refine g_slice ?_); apply o_sllo; infer_instance; infer_instance; rfl; rfl; (first | omega | (focus (simp only [IntKind.bits]; omega)) | (focus (simp; done)) | (focus (simp; omega))); (first | omega | (focus (simp only [IntKind.bits]; omega)) | (focus (simp; done)) | (focus (simp; omega))); rfl; intro pn hpn); have hsl : SlR 1 encS w pn (r.ss.length - (1 : Int).toNat) t := (by rw [hpn, ← hdr]; exact SlR.drop' (hro.slr (w := w) (by intros; rfl) (fun z hz => hp.blk _ (List.mem_cons_of_mem _ (List.mem_cons_of_mem _ (List.mem_append_right _ (List.mem_append_left _ hz)))))) (by show 1 ≤ r.ss.length; omega) hro.len)) | (((with_reducible refine g_call ?_); refine o_call (cloneN_c _ hsl (by omega) (N := t.length) (by show r.ss.length - 1 = t.length; omega)) rfl rfl ?_); rintro v w ⟨p2, c2, Q2, rfl, hown, hq2⟩; replace hp := Hp.swapIn (W1 := ((rs.take b).map PR.Q).flatten) (Q := r.Q) (W2 := ((rs.drop (b + 1)).map PR.Q).flatten) (hp.fresh hq2); clear hq2 hsl) | (((with_reducible refine g_store ?_); apply o_storeRowE (i := b) ({ r with d := dE qu pd r - (y.size : Int), p := p2, c := c2, Q := Q2, ss := t } : PR) (rs.set b ({ r with d := dE qu pd r - (y.size : Int), p := p2, c := c2, Q := Q2, ss := t } : PR)) hp; infer_instance; rfl; rfl; rfl; rfl; (exact lk 1 rfl); assumption; (intros; rfl); exact hr2; rfl; rfl; (first | rfl | exact List.set_set ..); clear hp; (try clear w); intro w hp); have hr3 : (rs.set b ({ r with d := dE qu pd r - (y.size : Int), p := p2, c := c2, Q := Q2, ss := t } : PR))[b]? = some ({ r with d := dE qu pd r - (y.size : Int), p := p2, c := c2, Q := Q2, ss := t } : PR) := get_set hb; have hcut3 : Cut _ _ [.int .i64 r.w, .int .i64 (dE qu pd r - (y.size : Int)), .slice p2 t.length c2] := row_cut (pad := pad) hr3 (by assumption)) | ((with_reducible refine g_store ?_); apply o_storeRowE (i := b) ({ r with d := 0, p := p2, c := c2, Q := Q2, ss := t } : PR) (rs.set b ({ r with d := 0, p := p2, c := c2, Q := Q2, ss := t } : PR)) hp; infer_instance; rfl; rfl; rfl; rfl; (exact lk 1 rfl); assumption; (intros; rfl); exact hr3; rfl; rfl; (first | rfl | exact List.set_set ..); clear hp; (try clear w); intro w hp) | (refine st1 ?_) | (refine st2 ?_ ?_) | (clear hp; (try clear w); intro (w : World) (hp : Hp _ _ _ _)) | (clear hp; (try clear w); intro (gn : Nat) (w : World) (hp : Hp _ _ _ _)) | (intro h; (try (exfalso; omega))))
    · obtain rfl : pd = false := by simpa using ‹(!pd) = true›
      refine ⟨(), ⟨(by (repeat (first | exact agree_base rfl | (with_reducible exact agree_refl) | (exact agree_eq (by assumption)) | (refine agree_upd rfl ?_) | (refine agree_baseT rfl rfl ?_)))), trivial, ?_, trivial⟩⟩
      rw [FL_split hr] at hp
      rw [FL_set hr]
      exact hp
    · obtain rfl : pd = true := by simpa using ‹(!pd) = false›
      refine ⟨(), ⟨(by (repeat (first | exact agree_base rfl | (with_reducible exact agree_refl) | (exact agree_eq (by assumption)) | (refine agree_upd rfl ?_) | (refine agree_baseT rfl rfl ?_)))), trivial, ?_, trivial⟩⟩
      have e : rs.set b ({ r with d := dE qu true r } : PR) = rs := by
        have e1 : ({ r with d := dE qu true r } : PR) = r := rfl
        rw [e1]
        obtain ⟨hlt, he⟩ := List.getElem?_eq_some_iff.1 hr
        rw [← he]; exact List.set_getElem_self hlt
      rw [e]; exact hp
    · refine leave (fun g => hL g (rs.set b ({ r with d := dE qu pd r } : PR)) _ w (fStep_leave hr hss ‹_› (by simp [List.map_set])) (ok_set ho hro) ?_) (by (repeat (first | exact agree_base rfl | (with_reducible exact agree_refl) | (exact agree_eq (by assumption)) | (refine agree_upd rfl ?_) | (refine agree_baseT rfl rfl ?_)))) trivial
      rw [FL_set hr]; exact hp
    · have ht : t = [] := List.length_eq_zero_iff.1 (by omega)
      refine hR _ b y (rs.set b ({ r with d := 0, p := p2, c := c2, Q := Q2, ss := t } : PR)) _ false w (fStep_last hr (by rw [hss, ht]) ‹_› (by simp [List.map_set, ht])) (ok_set ho hown) ?_ rfl rfl rfl
      rw [FL_set hr]; exact hp
    · have ht : t ≠ [] := by rintro rfl; simp at *
      refine hR _ b y (rs.set b ({ r with d := dE qu pd r - (y.size : Int), p := p2, c := c2, Q := Q2, ss := t } : PR)) b true w (fStep_take hr hss ht ‹_› (by simp [List.map_set])) (ok_set ho hown) ?_ rfl rfl rfl
      rw [FL_set hr]; exact hp
theorem Take_c {w0 : World} {gq ga ca a : Nat} {qu : Int} {paid : Bool} {pad : List Value} {rows : List PR} (hk : Kn w0 (FL gq ga ca qu a paid pad rows)) (ho : RowsOk rows) (hg : FGood qu (fS a paid rows)) : Ret Try.prog 32 [.pointer (some ⟨gq, 0, none⟩)] w0 fun v w' => ((∀ x ∈ rows, x.ss = []) ∧ v = .tuple #[.int .i64 0, .string ByteArray.empty, .bool false] ∧ Hp w0 (ks (FL gq ga ca qu a paid pad rows)) w' (FL gq ga ca qu a paid pad rows)) ∨ (∃ s' k y rows', FTook qu (fS a paid rows) (s', k, y) ∧ v = .tuple #[.int .i64 (k : Int), .string y, .bool true] ∧ rows'.map PR.abs = s'.qs ∧ RowsOk rows' ∧ Hp w0 (ks (FL gq ga ca qu a paid pad rows)) w' (FL gq ga ca qu s'.at_ s'.paid pad rows')) := by
  refine enterR Try.func32 rfl Try.ntmps32 rfl ?_
  have hp := hk.hp
  generalize hfp : ks (FL gq ga ca qu a paid pad rows) = fp at hp ⊢
  have hlen := hg.len
  simp only [List.length_map] at hlen
  by_cases hne : ∃ x ∈ rows, x.ss ≠ []
  · obtain ⟨x, hx, hxs⟩ := hne
    obtain ⟨j, hj⟩ := List.mem_iff_getElem?.1 hx
    have hj' : (fS a paid rows).qs[j]? = some x.abs := by simp [hj]
    have hd : decide (∃ x ∈ rows, x.ss ≠ []) = true := decide_eq_true ⟨x, hx, hxs⟩
    repeat' (first | ((with_reducible refine g_call ?_); refine o_callF hp (hd ▸ contains_c _ (SlR.rowN (hp.blk _ (List.mem_cons_of_mem _ List.mem_cons_self)) (Rows.flat (by intros; rfl)) rfl) (by omega)) rfl rfl ?_) | (refine W_loopS (σ := (Nat × Bool) × List PR) [2, 3, 4, 5, 6, 7, 14, 15, 16, 17, 18, 19, 20, 21, 22, 23, 24, 25, 26, 27, 28, 29, 30, 31, 32, 33, 34, 35, 36, 37, 38, 39, 40, 41, 42, 43, 44, 45, 46, 47, 48, 49, 50, 51, 52, 53, 54, 55, 56, 57, 58, 59, 60, 61, 62, 63, 64, 65, 66, 67, 68, 69, 70, 71, 72, 73, 74, 75, 76, 77, 78, 79, 80, 81, 82, 83, 84, 85, 86, 87, 88, 89, 90, 91, 92, 93, 94, 95, 96, 97, 98, 99, 100, 101, 102, 103, 104] (fun _ => []) (fun s => FL gq ga ca qu s.1.1 s.1.2 pad s.2) (fun s => RowsOk s.2 ∧ FFrom qu (fS a paid rows) (fS s.1.1 s.1.2 s.2) ∧ FGood qu (fS s.1.1 s.1.2 s.2) ∧ ∃ x, (fS s.1.1 s.1.2 s.2).qs[j]? = some x ∧ x.ss ≠ []) (fun s => fMu j (fS s.1.1 s.1.2 s.2)) ((a, paid), rows) trivial hp ⟨ho, FFrom.refl, hg, _, hj', hxs⟩ ?_; clear hp ho hg; rintro ⟨⟨b, pd⟩, rs⟩ g2 w hp ⟨ho, hfrom, hg, x', hx', hxs'⟩; dsimp only at ho hfrom hg hx' hp ⊢; clear hj' hxs hx hd) | (refine take_round rfl ⟨rfl, trivial⟩ (by repeat (first | exact NoP.post | assumption | apply NoP.thn | apply NoP.inB)) ho hg hp ?_ ?_; (intro g rs' b' w hst ho' hp'); rotate_left; (intro F k y rs' b' pd' w hst ho' hp' e2 e3 e4); rotate_left) | (refine st1 ?_) | (refine st2 ?_ ?_) | (clear hp; (try clear w); intro (w : World) (hp : Hp _ _ _ _)) | (clear hp; (try clear w); intro (gn : Nat) (w : World) (hp : Hp _ _ _ _)) | (intro h; (try (exfalso; omega))))
    · have hm := fMu_step hg hx' hxs' hst
      exact ⟨((b', false), rs'), ⟨(by (repeat (first | exact agree_base rfl | (with_reducible exact agree_refl) | (exact agree_eq (by assumption)) | (refine agree_upd rfl ?_) | (refine agree_baseT rfl rfl ?_)))), trivial, hp', ho', hfrom.step hst, hg.step hst, hm.2⟩, hm.1⟩
    · refine ret3 rfl ⟨_, rfl, ?_⟩
      rw [e2, e3, e4]
      exact .inr ⟨fS b' pd' rs', k, y, rs', hfrom.done hst, rfl, rfl, ho', hp'⟩
  · have hd : decide (∃ x ∈ rows, x.ss ≠ []) = false := decide_eq_false hne
    repeat' (first | ((with_reducible refine g_call ?_); refine o_callF hp (hd ▸ contains_c _ (SlR.rowN (hp.blk _ (List.mem_cons_of_mem _ List.mem_cons_self)) (Rows.flat (by intros; rfl)) rfl) (by omega)) rfl rfl ?_) | (refine st1 ?_) | (refine st2 ?_ ?_) | (clear hp; (try clear w); intro (w : World) (hp : Hp _ _ _ _)) | (clear hp; (try clear w); intro (gn : Nat) (w : World) (hp : Hp _ _ _ _)) | (intro h; (try (exfalso; omega))))
    exact r_ttt rfl rfl rfl rfl ⟨_, rfl, .inl ⟨fun x hx => Classical.byContradiction fun h => hne ⟨x, hx, h⟩, rfl, hp⟩⟩
end Go.Proofs.Ytipjhbkjgidljaa
