/- A step engine for walks: slices that a call owns; append; reslicing; what is read in whatever world. -/
import Derived.Test.YtipjhbkjgidljaaEf
set_option linter.unusedVariables false
set_option linter.unusedSimpArgs false
set_option linter.unusedSectionVars false
namespace Go.Proofs.Ytipjhbkjgidljaa.E
open Go Go.RowKit
section
variable {R : Type} {m n c k ck : Nat} {enc : R → List Value} {e : TypeId} {p q : Option Addr} {Qm : Mem} {rs new : List R} {w w0 : World} {fp : List Nat} {A B L : Mem}
/-- a slice whose block is its own: none yet, or one from its start on. -/
def Own (m : Nat) (enc : R → List Value) (e : TypeId) (p : Option Addr) (c : Nat) (Qm : Mem) (rs : List R) : Prop :=
  (c = 0 ∧ Qm = [] ∧ rs = []) ∨ ∃ g pad, p = some ⟨g, 0, none⟩ ∧ Qm = [(g, C e ((rs.map enc).flatten ++ pad))] ∧ rs.length ≤ c ∧ pad.length + rs.length * m = c * m
theorem Own.nil : Own m enc e p 0 [] [] := .inl ⟨rfl, rfl, rfl⟩
theorem Own.len (h : Own m enc e p c Qm rs) : rs.length ≤ c := by
  rcases h with ⟨rfl, _, rfl⟩ | ⟨_, _, _, _, h, _⟩
  · exact Nat.le_refl _
  · exact h
theorem Own.inv {i : Nat} (h : Own m enc e p c Qm rs) (hi : i < rs.length) : ∃ g pad, p = some ⟨g, 0, none⟩ ∧ Qm = [(g, C e ((rs.map enc).flatten ++ pad))] ∧ rs.length ≤ c ∧ pad.length + rs.length * m = c * m := by
  rcases h with ⟨_, _, rfl⟩ | h
  · simp at hi
  · exact h
theorem Own.slr (h : Own m enc e p c Qm rs) (hen : ∀ r ∈ rs, (enc r).length = m) (hk : ∀ x ∈ Qm, w.heap[x.1]? = some x.2) : SlR m enc w p rs.length rs := by
  rcases h with ⟨_, _, rfl⟩ | ⟨g, pad, rfl, rfl, _, _⟩
  · exact ⟨rfl, fun i r hi => by simp at hi⟩
  · exact SlR.row (hk (g, C e ((rs.map enc).flatten ++ pad)) (by simp)) (Rows.flat hen)
theorem At.flat {a : Addr} (hen : ∀ r ∈ new, (enc r).length = m) (h : ∀ i r, new[i]? = some r → At w (a.add (i * m)) (enc r)) : At w a ((new.map enc).flatten) := by
  induction new generalizing a with
  | nil => intro j v hv; simp at hv
  | cons r rs ih =>
    intro j v hv
    simp only [List.map_cons, List.flatten_cons] at hv
    have hr := hen r (by simp)
    by_cases hj : j < m
    · rw [List.getElem?_append_left (by omega)] at hv
      have := h 0 r rfl j v hv
      rwa [Nat.zero_mul, Addr.add_zero] at this
    · rw [List.getElem?_append_right (by omega), hr] at hv
      have := ih (a := a.add m) (fun r hr => hen r (by simp [hr])) (fun i r hi => by
        have := h (i + 1) r (by simpa using hi)
        rw [Addr.add_add]
        rwa [Nat.add_mul, Nat.one_mul, Nat.add_comm] at this) (j - m) v hv
      rw [Addr.add_add] at this
      rwa [show m + (j - m) = j by omega] at this
theorem SlR.flat (h : SlR m enc w q k new) (hen : ∀ r ∈ new, (enc r).length = m) (h0 : new ≠ []) : ∃ a, q = some a ∧ At w a ((new.map enc).flatten) := by
  cases new with
  | nil => exact absurd rfl h0
  | cons r rs =>
    obtain ⟨a, rfl, _⟩ := h.get 0 r rfl
    exact ⟨a, rfl, At.flat hen fun i r hi => by
      obtain ⟨b, hb, hat⟩ := h.get i r hi
      injection hb with hb; subst hb; exact hat⟩
theorem SlR.take (h : SlR m enc w p n rs) {j : Nat} (hj : j ≤ n) : SlR m enc w p j (rs.take j) :=
  ⟨by have := h.len; simp; omega, fun i r hi => by
    rw [List.getElem?_take] at hi
    split at hi
    · exact h.get i r hi
    · cases hi⟩
theorem SlR.drop (h : SlR m enc w p n rs) {j : Nat} (hj : j ≤ n) : SlR m enc w (p.map (·.add (j * m))) (n - j) (rs.drop j) :=
  ⟨by have := h.len; simp; omega, fun i r hi => by
    rw [List.getElem?_drop] at hi
    obtain ⟨a, rfl, hat⟩ := h.get _ r hi
    refine ⟨_, rfl, ?_⟩
    rw [Addr.add_add, ← Nat.add_mul]; exact hat⟩
theorem SlR.drop' (h : SlR m enc w p n rs) {j c : Nat} (hj : j ≤ n) (hn : n ≤ c) : SlR m enc w (if c = j then p else p.map (·.add (j * m))) (n - j) (rs.drop j) := by
  split
  · have hl := h.len
    have : rs.drop j = [] := List.drop_eq_nil_of_le (by omega)
    rw [this]
    exact ⟨by simp; omega, fun i r hi => by simp at hi⟩
  · exact h.drop hj
theorem SlR.rowN {N g o : Nat} {t : TypeId} {bs : List Value} (hg : w.heap[g]? = some (C t bs)) (h : Rows m enc bs o rs) (hN : N = rs.length) : SlR m enc w (some ⟨g, o, none⟩) N rs := by
  subst hN; exact SlR.row hg h
theorem Own.slrN {N : Nat} (h : Own m enc e p c Qm rs) (hen : ∀ r ∈ rs, (enc r).length = m) (hk : ∀ x ∈ Qm, w.heap[x.1]? = some x.2) (hN : N = rs.length) : SlR m enc w p N rs := by
  subst hN; exact h.slr hen hk
theorem SlR.nil : SlR m enc w p 0 [] := ⟨rfl, fun i r hi => by simp at hi⟩
theorem Hp.fresh {w' : World} (h : Hp w0 fp w L) (hc : Hp w [] w' Qm) : Hp w0 fp w' (Qm ++ L) := Hp.call [] (B := L) (Q := []) h hc
theorem set_mid (x y : Nat × Obj) : (A ++ ([x] ++ B))[A.length]? = some x ∧ (A ++ ([x] ++ B)).set A.length y = A ++ ([y] ++ B) := by
  constructor <;> simp
theorem Hp.mid {g : Nat} {o o' : Obj} {w' : World} (h : Hp w0 fp w (A ++ ([(g, o)] ++ B))) (hos : w'.os = w.os) (htape : w'.tape = w.tape) (hout : w'.output = w.output) (hsz : w.heap.size ≤ w'.heap.size)
    (hg : w'.heap[g]? = some o') (hoth : ∀ k, k < w.heap.size → k ≠ g → w'.heap[k]? = w.heap[k]?) : Hp w0 fp w' (A ++ ([(g, o')] ++ B)) := by
  have := h.change (set_mid (A := A) (B := B) (g, o) (g, o')).1 hos htape hout hsz hg hoth
  rwa [(set_mid (A := A) (B := B) (g, o) (g, o')).2] at this
theorem Hp.swap (h : Hp w0 fp w (A ++ (Qm ++ B))) (o : Obj) : Hp w0 fp (w.drew.alloc o) (A ++ ([(w.heap.size, o)] ++ B)) := by
  have h1 := (h.drew.allocF o)
  refine (h1.sub (L' := (w.heap.size, o) :: (A ++ B)) ?_).perm ?_
  · exact List.Sublist.cons_cons _ (List.Sublist.append_left (List.sublist_append_right _ _) _)
  · simp
variable {P : Program} {t ty : TypeId} {zz : List Value}
theorem run_app (hp : Hp w0 fp w (A ++ (Qm ++ B))) (hown : Own m enc e p c Qm rs) (hsrc : SlR m enc w q k new) (ht : SlE P t e) (hm : Sz P e m) (hz : Zr P e zz) (hbt : Bt P e) (hzl : zz.length = m) (hm0 : Nat.blt 0 m = true) (hen : ∀ r ∈ rs, (enc r).length = m) (hen2 : ∀ r ∈ new, (enc r).length = m) (hone : ∀ r ∈ new, ∀ v ∈ enc r, v.oneCell' = true) (hb : rs.length + new.length ≤ 17179869184) :
    ∃ p' c' Q' w', (Builtin.append_ #[t, t] ty #[.slice p rs.length c, .slice q k ck]).run P w = .ok (.slice p' (rs.length + new.length) c') w' ∧ Own m enc e p' c' Q' (rs ++ new) ∧ Hp w0 fp w' (A ++ (Q' ++ B)) := by
  have h1 : P.underlying t = some (.slice e) := ht.out
  have h2 := hz.out
  have h3 := hbt.out
  have hm0' : 0 < m := by simpa using hm0
  have hk := hsrc.len
  cases hi : P.info? e with
  | none => rw [hi] at h2; cases h2
  | some i =>
    rw [hi] at h2 h3
    simp only [Option.bind_some] at h2
    simp only [Option.map_some, Option.some.injEq, decide_eq_true_eq] at h3
    have hmi : i.size = m := by have := hm.out; rw [hi] at this; simpa using this
    cases hzz : i.zero with
    | none => rw [hzz] at h2; cases h2
    | some v =>
      rw [hzz] at h2
      simp only [Option.map_some, Option.some.injEq] at h2
      have h6 : v.cells.size = m := by rw [← hzl, ← h2]; simp
      by_cases h0 : new = []
      · subst h0
        simp at hk; subst hk
        refine ⟨p, c, Qm, w, ?_, by simpa using hown, hp⟩
        have hle := hown.len
        cases q with
        | none => cases p <;> simp [Builtin.append_, run_underlying h1, sizeOf, typeInfo, hi, Builtin.lenOf, hle, Builtin.firstCells, storeCells]
        | some a =>
          have hf := run_firstCells_some (P := P) w i.size 0 a 0 ck [] (by simp) (by simp)
          cases p <;> simp [Builtin.append_, run_underlying h1, sizeOf, typeInfo, hi, Builtin.lenOf, hle, hf, storeCells]
      · obtain ⟨a, rfl, hat⟩ := hsrc.flat hen2 h0
        have hnl : ((new.map enc).flatten).length = k * i.size := by rw [flat_len hen2, hmi, hk]
        have hk0 : 0 < k := by rw [hk]; exact List.length_pos_iff.2 h0
        have hbb : (rs.length + k) * i.bytes ≤ 140737488355328 := by
          have : (rs.length + k) * i.bytes ≤ 17179869184 * 4096 := Nat.mul_le_mul (by omega) h3
          omega
        have grown : ∀ old, old < rs.length + k → Own m enc e (some ⟨w.heap.size, 0, none⟩) (grownCap w (rs.length + k) old e) [(w.heap.size, C e (((rs ++ new).map enc).flatten ++ (Builtin.zeroCells v.cells (grownCap w (rs.length + k) old e - (rs.length + k))).toList))] (rs ++ new) := by
          intro old ho
          have hge := grownCap_ge w (rs.length + k) old e
          refine .inr ⟨_, _, rfl, rfl, by simp; omega, ?_⟩
          rw [Array.length_toList, size_zeroCells, h6, List.length_append, ← Nat.add_mul, ← hk]
          congr 1; omega
        have obj : ∀ nc, (Obj.cells (((rs.map enc).flatten).toArray ++ ((new.map enc).flatten).toArray ++ Builtin.zeroCells v.cells nc) e (0, 0)) = C e (((rs ++ new).map enc).flatten ++ (Builtin.zeroCells v.cells nc).toList) := by
          intro nc
          show Obj.cells _ e (0, 0) = Obj.cells _ e (0, 0)
          congr 1
          apply Array.toList_inj.1
          simp
        have obj0 : ∀ nc, (Obj.cells (((new.map enc).flatten).toArray ++ Builtin.zeroCells v.cells nc) e (0, 0)) = C e ((([] ++ new).map enc).flatten ++ (Builtin.zeroCells v.cells nc).toList) := by
          intro nc
          show Obj.cells _ e (0, 0) = Obj.cells _ e (0, 0)
          congr 1
          apply Array.toList_inj.1
          simp
        have obj1 : ∀ nc, (Obj.cells (([] : List Value).toArray ++ ((new.map enc).flatten).toArray ++ Builtin.zeroCells v.cells nc) e (0, 0)) = C e ((([] ++ new).map enc).flatten ++ (Builtin.zeroCells v.cells nc).toList) := by
          intro nc
          show Obj.cells _ e (0, 0) = Obj.cells _ e (0, 0)
          congr 1
          apply Array.toList_inj.1
          simp
        rcases hown with ⟨rfl, rfl, rfl⟩ | ⟨g, pad, rfl, rfl, hrc, hpad⟩
        · have hl0 : ([] : List R).length + k = k := Nat.zero_add k
          have e0 : ([] : List R).length + new.length = k := by rw [← hk]; exact Nat.zero_add k
          have hgr := grown 0 (by omega)
          rw [e0]
          rw [hl0] at hgr
          cases p with
          | none =>
            have hr := run_append_nil (P := P) w t ty e i v h1 hi hzz a k ck _ hnl hat hk0 (by omega) (by rw [hl0] at hbb; omega)
            rw [obj0] at hr
            exact ⟨_, _, _, _, hr, hgr, hp.swap _⟩
          | some b =>
            have hr := run_append_grow (P := P) w t ty e i v h1 hi hzz b 0 0 [] (by simp) (by simp) a k ck _ hnl hat (by omega) (by omega) (growslice_fits (by omega) (by rw [hl0] at hbb; simpa using hbb))
            simp only [Nat.zero_add] at hr
            rw [obj1] at hr
            exact ⟨_, _, _, _, hr, hgr, hp.swap _⟩
        · have hgw : w.heap[g]? = some (C e ((rs.map enc).flatten ++ pad)) := hp.blk (g, _) (by simp)
          have hol : ((rs.map enc).flatten).length = rs.length * i.size := by rw [flat_len hen, hmi]
          by_cases hroom : rs.length + k ≤ c
          · have hfit : rs.length * i.size + ((new.map enc).flatten).length ≤ ((rs.map enc).flatten ++ pad).toArray.size := by
              rw [hnl, ← Nat.add_mul]
              simp only [List.size_toArray, List.length_append, hol, hmi]
              have : (rs.length + k) * m ≤ c * m := Nat.mul_le_mul_right _ hroom
              rw [hmi] at *
              omega
            have hr := run_append_room (P := P) w t ty e i h1 hi g rs.length c _ hgw a k ck _ hnl hat (by
              intro u hu
              obtain ⟨l, hl, hul⟩ := List.mem_flatten.1 hu
              obtain ⟨r, hr, rfl⟩ := List.mem_map.1 hl
              exact hone r hr u hul) hroom hfit
            refine ⟨_, _, [(g, C e (((rs ++ new).map enc).flatten ++ pad.drop (k * m)))], _, (by rw [← hk]; exact hr), ?_, ?_⟩
            · refine .inr ⟨g, _, rfl, rfl, by simp; omega, ?_⟩
              simp only [List.length_drop, List.length_append, Nat.add_mul, ← hk]
              have : (rs.length + k) * m ≤ c * m := Nat.mul_le_mul_right _ hroom
              rw [Nat.add_mul] at this
              omega
            · refine Hp.mid hp rfl rfl rfl (by simp) ?_ (fun j _ hj => setRow_other _ _ _ _ hj)
              rw [setRow_heap w g _ _ e (0, 0) hgw]
              show some (Obj.cells _ e (0, 0)) = some (Obj.cells _ e (0, 0))
              congr 2
              apply Array.toList_inj.1
              have e1 : (List.take (rs.length * i.size) ((rs.map enc).flatten ++ pad)) = (rs.map enc).flatten := by rw [← hol]; exact List.take_left
              have e2 : List.drop (rs.length * i.size + ((new.map enc).flatten).length) ((rs.map enc).flatten ++ pad) = pad.drop (k * m) := by
                rw [← List.drop_drop, ← hol, List.drop_left, hnl, hmi]
              simp only [List.map_append, List.flatten_append, List.append_assoc] at *
              rw [e1, e2]
          · have hr := run_append_grow (P := P) w t ty e i v h1 hi hzz ⟨g, 0, none⟩ rs.length c _ hol (At.of hgw (k := 0) fun j v hv => by rw [Nat.zero_add, List.getElem?_append_left (List.getElem?_eq_some_iff.1 hv).1]; exact hv) a k ck _ hnl hat (by omega) (by omega) (growslice_fits (by omega) hbb)
            rw [obj] at hr
            exact ⟨_, _, _, _, (by rw [← hk]; exact hr), grown c (by omega), hp.swap _⟩
end
section
variable {P : Program} {n d : Nat} {ops : Array Oper} {rest : List Oper} {Q : Exit → Fr → World → Prop} {f : Fr} {w w0 : World} {fp : List Nat} {L A B Qm : Mem} {v u : Value} {t ty ty' : TypeId} {pos : String} {aft : Array Edge} {x y z : Operand} {Cq : World → Prop} {Kq : Fr → Prop}
theorem o_app {R : Type} {m N c k ck : Nat} {enc : R → List Value} {e : TypeId} {p q : Option Addr} {rs new : List R} {zz : List Value} (A : Mem) (hp : Hp w0 fp w (A ++ (Qm ++ B))) (hown : Own m enc e p c Qm rs) (hsrc : SlR m enc w q k new) (ht : SlE P t e) (hm : Sz P e m) (hz : Zr P e zz) (hbt : Bt P e) (hx : ev f x = .slice p N c) (hN : N = rs.length) (hy : ev f y = .slice q k ck) (hzl : zz.length = m) (hm0 : Nat.blt 0 m = true) (hen : ∀ r ∈ rs, (enc r).length = m) (hen2 : ∀ r ∈ new, (enc r).length = m) (hone : ∀ r ∈ new, ∀ v ∈ enc r, v.oneCell' = true) (hb : rs.length + new.length ≤ 17179869184) (hd : Nat.blt d n = true)
    (h : ∀ p' c' Q' w', Own m enc e p' c' Q' (rs ++ new) → Hp w0 fp w' (A ++ (Q' ++ B)) → WL P n ops rest Q (upd f d (.slice p' (rs.length + new.length) c')) w') : WL P n ops (⟨some d, .call { callee := .builtin .append, args := #[x, y], argTypes := #[t, t] }, ty, pos, aft, none⟩ :: rest) Q f w := by
  subst hN
  obtain ⟨p', c', Q', w', hr, ho, hp'⟩ := run_app (P := P) (t := t) (ty := ty) (ck := ck) hp hown hsrc ht hm hz hbt hzl hm0 hen hen2 hone hb
  exact o_val rfl rfl hd (by simp [execOp, resolve, invoke, builtin, hx, hy, hr]) (h p' c' Q' w' ho hp')
theorem o_appN {R : Type} {m N c k ck : Nat} {enc : R → List Value} {e : TypeId} {p q : Option Addr} {rs new : List R} {zz : List Value} (A : Mem) (K : Nat) (hp : Hp w0 fp w (A ++ (Qm ++ B))) (hown : Own m enc e p c Qm rs) (hsrc : SlR m enc w q k new) (ht : SlE P t e) (hm : Sz P e m) (hz : Zr P e zz) (hbt : Bt P e) (hx : ev f x = .slice p N c) (hN : N = rs.length) (hy : ev f y = .slice q k ck) (hzl : zz.length = m) (hm0 : Nat.blt 0 m = true) (hen : ∀ r ∈ rs, (enc r).length = m) (hen2 : ∀ r ∈ new, (enc r).length = m) (hone : ∀ r ∈ new, ∀ v ∈ enc r, v.oneCell' = true) (hb : rs.length + new.length ≤ 17179869184) (hK : rs.length + new.length = K) (hd : Nat.blt d n = true)
    (h : ∀ p' c' Q' w', Own m enc e p' c' Q' (rs ++ new) → Hp w0 fp w' (A ++ (Q' ++ B)) → WL P n ops rest Q (upd f d (.slice p' K c')) w') : WL P n ops (⟨some d, .call { callee := .builtin .append, args := #[x, y], argTypes := #[t, t] }, ty, pos, aft, none⟩ :: rest) Q f w := by
  subst hK
  exact o_app A hp hown hsrc ht hm hz hbt hx hN hy hzl hm0 hen hen2 hone hb hd h
/-- reslicing. -/
theorem o_slhi {e : TypeId} {m N c : Nat} {p : Option Addr} {k2 : IntKind} {j : Int} (ht : SlE P t e) (hm : Sz P e m) (hx : ev f x = .slice p N c) (hy : ev f y = .int k2 j) (h1 : 0 ≤ j) (h2 : j ≤ c) (hb : Nat.blt d n = true) (h : WL P n ops rest Q (upd f d (.slice p j.toNat c)) w) : WL P n ops (⟨some d, .slice t x none (some y) none, ty, pos, aft, none⟩ :: rest) Q f w :=
  o_val rfl rfl hb (by
    have h5 : P.underlying t = some (.slice e) := ht.out
    have e1 : p.map (fun a => a.add (0 * m)) = p := by cases p <;> simp [Addr.add_zero]
    simp only [Nat.zero_mul] at e1
    simp [execOp, Instr.sliceAt, Instr.slice, Instr.sliceBounds, Instr.sliceBound, asIntOf, run_underlying h5, run_sizeOf, go_sem, hx, hy, h1, h2, e1]) h
theorem o_sllo {e : TypeId} {m N c : Nat} {p : Option Addr} {k2 : IntKind} {j : Int} (ht : SlE P t e) (hm : Sz P e m) (hx : ev f x = .slice p N c) (hy : ev f y = .int k2 j) (h1 : 0 ≤ j) (h2 : j ≤ N) (hb : Nat.blt d n = true) (h : ∀ p', p' = (if c = j.toNat then p else p.map (·.add (j.toNat * m))) → WL P n ops rest Q (upd f d (.slice p' (N - j.toNat) (c - j.toNat))) w) : WL P n ops (⟨some d, .slice t x (some y) none none, ty, pos, aft, none⟩ :: rest) Q f w :=
  o_val rfl rfl hb (by
    have h5 : P.underlying t = some (.slice e) := ht.out
    simp [execOp, Instr.sliceAt, Instr.slice, Instr.sliceBounds, Instr.sliceBound, asIntOf, run_underlying h5, run_sizeOf, go_sem, hx, hy, h1, h2]) (h _ rfl)
/-- what is read in whatever world in which this is known. -/
theorem q_iaE {R : Type} {m N c : Nat} {e : TypeId} {enc : R → List Value} {p : Option Addr} {rs : List R} {k : IntKind} {i : Int} (hw : Cq w) (hs : ∀ w, Cq w → SlR m enc w p N rs) (ht : SlE P t e) (hm : Sz P e m) (hx : ev f x = .slice p N c) (hy : ev f y = .int k i) (h0 : 0 ≤ i) (h1 : i < N) (hb : Nat.blt d n = true)
    (h : ∀ a r, rs[i.toNat]? = some r → (∀ w, Cq w → At w a (enc r)) → QL P n ops Cq rest Kq (upd f d (.pointer (some a)))) : QL P n ops Cq (⟨some d, .indexAddr t x y, ty, pos, aft, none⟩ :: rest) Kq f := by
  have hlt : i.toNat < rs.length := by have := (hs w hw).len; omega
  obtain ⟨a, rfl, hat⟩ := (hs w hw).get i.toNat rs[i.toNat] (List.getElem?_eq_getElem hlt)
  refine q_val (v := .pointer (some (a.add (i.toNat * m)))) rfl rfl hb (fun w hp => ?_) (h _ _ (List.getElem?_eq_getElem hlt) fun w' hw' => ?_)
  · have h2 : P.underlying t = some (.slice e) := ht.out
    simp [execOp, Instr.indexAt, asIntOf, hx, hy, run_underlying h2, run_sizeOf, h0, h1, go_sem]
  · obtain ⟨a', ha, hat'⟩ := (hs w' hw').get i.toNat rs[i.toNat] (List.getElem?_eq_getElem hlt)
    injection ha with ha; subst ha; exact hat'
/-- an index of which only the address is told; what lies there in a world in which the slice reads. -/
theorem q_iaP {R : Type} {m N c : Nat} {e : TypeId} {enc : R → List Value} {p : Option Addr} {rs : List R} {k : IntKind} {i : Int} {r : R} (hs : SlR m enc w p N rs) (ht : SlE P t e) (hm : Sz P e m) (hx : ev f x = .slice p N c) (hy : ev f y = .int k i) (h0 : 0 ≤ i) (hr : rs[i.toNat]? = some r) (hb : Nat.blt d n = true)
    (h : ∀ a, (∀ w', SlR m enc w' p N rs → At w' a (enc r)) → QL P n ops Cq rest Kq (upd f d (.pointer (some a)))) : QL P n ops Cq (⟨some d, .indexAddr t x y, ty, pos, aft, none⟩ :: rest) Kq f := by
  have hlt := (List.getElem?_eq_some_iff.1 hr).1
  have h1 : i < N := by have := hs.len; omega
  obtain ⟨a, rfl, hat⟩ := hs.get i.toNat r hr
  refine q_val (v := .pointer (some (a.add (i.toNat * m)))) rfl rfl hb (fun w hp => ?_) (h _ fun w' hw' => ?_)
  · have h2 : P.underlying t = some (.slice e) := ht.out
    simp [execOp, Instr.indexAt, asIntOf, hx, hy, run_underlying h2, run_sizeOf, h0, h1, go_sem]
  · obtain ⟨a', ha, hat'⟩ := hw'.get i.toNat r hr
    injection ha with ha; subst ha; exact hat'
theorem q_loadEP {R : Type} {m N : Nat} {enc : R → List Value} {p : Option Addr} {rs : List R} {a : Addr} {cs : List Value} (hsc : Sc P t) (hx : ev f x = .pointer (some a)) (hat : ∀ w', SlR m enc w' p N rs → At w' a cs) (hl : cs[0]? = some v) (hb : Nat.blt d n = true) (hs : ∀ w', Cq w' → SlR m enc w' p N rs) (h : QL P n ops Cq rest Kq (upd f d v)) : QL P n ops Cq (⟨some d, .load t x, ty, pos, aft, none⟩ :: rest) Kq f :=
  q_val rfl rfl hb (fun w hw => by
    have hc : w.cell? a = some v := by have := hat w (hs w hw) 0 v hl; rwa [Addr.add_zero] at this
    simp [execOp, Instr.loadAt, Instr.sureAddr, loadVar, hx, run_isAgg_no, hc, go_sem]) h
theorem q_loadEPA {R : Type} {m N k : Nat} {enc : R → List Value} {p : Option Addr} {rs : List R} {a : Addr} {cs : List Value} (hsc : Ag P t) (hm : Sz P t k) (hx : ev f x = .pointer (some a)) (hat : ∀ w', SlR m enc w' p N rs → At w' a cs) (hl : cs.length = k) (hb : Nat.blt d n = true) (hs : ∀ w', Cq w' → SlR m enc w' p N rs) (h : QL P n ops Cq rest Kq (upd f d (.agg cs.toArray))) : QL P n ops Cq (⟨some d, .load t x, ty, pos, aft, none⟩ :: rest) Kq f :=
  q_val rfl rfl hb (fun w hw => by
    have hlc : (loadCells a cs.length).run P w = .ok cs.toArray w := run_loadCells_list (P := P) w a _ (hat w (hs w hw))
    have hlv : (loadVar t a).run P w = .ok (.agg cs.toArray) w := by
      unfold loadVar
      rw [hl] at hlc
      simp [run_isAgg_yes, run_sizeOf, hlc]
    simp [execOp, Instr.loadAt, Instr.sureAddr, hx, hlv]) h
theorem o_slhiN {e : TypeId} {m N c : Nat} {p : Option Addr} {k2 : IntKind} {j : Int} (k : Nat) (ht : SlE P t e) (hm : Sz P e m) (hx : ev f x = .slice p N c) (hy : ev f y = .int k2 j) (hj : j.toNat = k) (h1 : 0 ≤ j) (h2 : j ≤ c) (hb : Nat.blt d n = true) (h : WL P n ops rest Q (upd f d (.slice p k c)) w) : WL P n ops (⟨some d, .slice t x none (some y) none, ty, pos, aft, none⟩ :: rest) Q f w :=
  o_slhi ht hm hx hy h1 h2 hb (by rw [hj]; exact h)
theorem o_iaRk {R : Type} {m N c : Nat} {e : TypeId} {enc : R → List Value} {p : Option Addr} {rs : List R} {k : IntKind} {i : Int} {r : R} (hs : SlR m enc w0 p N rs) (ht : SlE P t e) (hm : Sz P e m) (hx : ev f x = .slice p N c) (hy : ev f y = .int k i) (h0 : 0 ≤ i) (hr : rs[i.toNat]? = some r) (hb : Nat.blt d n = true)
    (h : ∀ a, At w0 a (enc r) → WL P n ops rest Q (upd f d (.pointer (some a))) w) : WL P n ops (⟨some d, .indexAddr t x y, ty, pos, aft, none⟩ :: rest) Q f w :=
  o_iaR hs ht hm hx hy h0 (by have := hs.len; have := (List.getElem?_eq_some_iff.1 hr).1; omega) hb fun a r' hr' hat => by rw [hr] at hr'; cases hr'; exact h a hat
theorem q_iaRk {R : Type} {m N c : Nat} {e : TypeId} {enc : R → List Value} {p : Option Addr} {rs : List R} {k : IntKind} {i : Int} {r : R} (hs : SlR m enc w0 p N rs) (ht : SlE P t e) (hm : Sz P e m) (hx : ev f x = .slice p N c) (hy : ev f y = .int k i) (h0 : 0 ≤ i) (hr : rs[i.toNat]? = some r) (hb : Nat.blt d n = true)
    (h : ∀ a, At w0 a (enc r) → QL P n ops Cq rest Kq (upd f d (.pointer (some a)))) : QL P n ops Cq (⟨some d, .indexAddr t x y, ty, pos, aft, none⟩ :: rest) Kq f :=
  q_iaR hs ht hm hx hy h0 (by have := hs.len; have := (List.getElem?_eq_some_iff.1 hr).1; omega) hb fun a r' hr' hat => by rw [hr] at hr'; cases hr'; exact h a hat
theorem q_iaEk {R : Type} {m N c : Nat} {e : TypeId} {enc : R → List Value} {p : Option Addr} {rs : List R} {k : IntKind} {i : Int} {r : R} (hw : Cq w) (hs : ∀ w, Cq w → SlR m enc w p N rs) (ht : SlE P t e) (hm : Sz P e m) (hx : ev f x = .slice p N c) (hy : ev f y = .int k i) (h0 : 0 ≤ i) (hr : rs[i.toNat]? = some r) (hb : Nat.blt d n = true)
    (h : ∀ a, (∀ w, Cq w → At w a (enc r)) → QL P n ops Cq rest Kq (upd f d (.pointer (some a)))) : QL P n ops Cq (⟨some d, .indexAddr t x y, ty, pos, aft, none⟩ :: rest) Kq f :=
  q_iaE hw hs ht hm hx hy h0 (by have := (hs w hw).len; have := (List.getElem?_eq_some_iff.1 hr).1; omega) hb fun a r' hr' hat => by rw [hr] at hr'; cases hr'; exact h a hat
theorem o_iaKk {R : Type} {m N c g o : Nat} {e : TypeId} {enc : R → List Value} {bs : List Value} {rs : List R} {k : IntKind} {i : Int} {r : R} (hs : Rows m enc bs o rs) (ht : SlE P t e) (hm : Sz P e m) (hx : ev f x = .slice (some ⟨g, o, none⟩) N c) (hy : ev f y = .int k i) (h0 : 0 ≤ i) (h1 : i < N) (hr : rs[i.toNat]? = some r) (hb : Nat.blt d n = true)
    (h : ∀ a, a = o + i.toNat * m → Cut bs a (enc r) → WL P n ops rest Q (upd f d (.pointer (some ⟨g, a, none⟩))) w) : WL P n ops (⟨some d, .indexAddr t x y, ty, pos, aft, none⟩ :: rest) Q f w :=
  o_val rfl rfl hb (by simp [execOp, hx, hy, run_ia ht hm h0 h1]) (h _ rfl (hs _ _ hr))
theorem q_iaKk {R : Type} {m N c g o : Nat} {e : TypeId} {enc : R → List Value} {bs : List Value} {rs : List R} {k : IntKind} {i : Int} {r : R} (hs : Rows m enc bs o rs) (ht : SlE P t e) (hm : Sz P e m) (hx : ev f x = .slice (some ⟨g, o, none⟩) N c) (hy : ev f y = .int k i) (h0 : 0 ≤ i) (h1 : i < N) (hr : rs[i.toNat]? = some r) (hb : Nat.blt d n = true)
    (h : ∀ a, a = o + i.toNat * m → Cut bs a (enc r) → QL P n ops Cq rest Kq (upd f d (.pointer (some ⟨g, a, none⟩)))) : QL P n ops Cq (⟨some d, .indexAddr t x y, ty, pos, aft, none⟩ :: rest) Kq f :=
  q_val rfl rfl hb (fun w hp => by simp [execOp, hx, hy, run_ia ht hm h0 h1]) (h _ rfl (hs _ _ hr))
theorem o_iaSk {R : Type} {m N c g o j : Nat} {e tb : TypeId} {enc : R → List Value} {bs : List Value} {rs : List R} {k : IntKind} {i : Int} {r : R} (hp : Hp w0 fp w L) (hi : L[j]? = some (g, C tb bs)) (hs : Rows m enc bs o rs) (ht : SlE P t e) (hm : Sz P e m) (hx : ev f x = .slice (some ⟨g, o, none⟩) N c) (hy : ev f y = .int k i) (h0 : 0 ≤ i) (h1 : i < N) (hr : rs[i.toNat]? = some r) (hb : Nat.blt d n = true)
    (h : ∀ a, a = o + i.toNat * m → Cut bs a (enc r) → Hp w0 fp w (L.set j (g, C tb (spl bs a (enc r)))) → WL P n ops rest Q (upd f d (.pointer (some ⟨g, a, none⟩))) w) : WL P n ops (⟨some d, .indexAddr t x y, ty, pos, aft, none⟩ :: rest) Q f w :=
  o_iaKk hs ht hm hx hy h0 h1 hr hb fun a ha hc => h a ha hc (by
    rw [spl_self hc]
    have : L.set j (g, C tb bs) = L := by
      obtain ⟨hlt, he⟩ := List.getElem?_eq_some_iff.1 hi
      rw [← he]; exact List.set_getElem_self hlt
    rw [this]; exact hp)
theorem q_loadE1 {a : Addr} {cs : List Value} (hs : Sc P t) (hx : ev f x = .pointer (some a)) (hat : ∀ w, Cq w → At w a cs) (hl : cs[0]? = some v) (hb : Nat.blt d n = true) (h : QL P n ops Cq rest Kq (upd f d v)) : QL P n ops Cq (⟨some d, .load t x, ty, pos, aft, none⟩ :: rest) Kq f :=
  q_val rfl rfl hb (fun w hw => by
    have hc : w.cell? a = some v := by have := hat w hw 0 v hl; rwa [Addr.add_zero] at this
    simp [execOp, Instr.loadAt, Instr.sureAddr, loadVar, hx, run_isAgg_no, hc, go_sem]) h
theorem q_loadEA {m : Nat} {a : Addr} {cs : List Value} (hs : Ag P t) (hm : Sz P t m) (hx : ev f x = .pointer (some a)) (hat : ∀ w, Cq w → At w a cs) (hl : cs.length = m) (hb : Nat.blt d n = true) (h : QL P n ops Cq rest Kq (upd f d (.agg cs.toArray))) : QL P n ops Cq (⟨some d, .load t x, ty, pos, aft, none⟩ :: rest) Kq f :=
  q_val rfl rfl hb (fun w hw => by
    have hlc : (loadCells a cs.length).run P w = .ok cs.toArray w := run_loadCells_list (P := P) w a _ (hat w hw)
    have hlv : (loadVar t a).run P w = .ok (.agg cs.toArray) w := by
      unfold loadVar
      rw [hl] at hlc
      simp [run_isAgg_yes, run_sizeOf, hlc]
    simp [execOp, Instr.loadAt, Instr.sureAddr, hx, hlv]) h
end
end Go.Proofs.Ytipjhbkjgidljaa.E
