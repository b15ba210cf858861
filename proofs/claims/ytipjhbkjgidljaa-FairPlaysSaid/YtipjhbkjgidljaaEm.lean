/- A step engine for walks: parts of memory that a call changes; slices of known blocks. -/
import Derived.Test.YtipjhbkjgidljaaEb
import Derived.Test.YtipjhbkjgidljaaEr
import Derived.Laws.MakeOwn
set_option linter.unusedVariables false
set_option linter.unusedSimpArgs false
namespace Go.Proofs.Ytipjhbkjgidljaa.E
open Go Go.RowKit
abbrev ks (L : Mem) : List Nat := L.map (·.1)
/-- what is known of a world, with nothing said on what was before. -/
structure Kn (w : World) (L : Mem) : Prop where
  blk : ∀ p ∈ L, w.heap[p.1]? = some p.2
  nd : (ks L).Nodup
section
variable {w0 w w' : World} {fp : List Nat} {L L' A B Q Q' : Mem} {g i : Nat} {o : Obj}
theorem Hp.kn (h : Hp w0 fp w L) : Kn w L := ⟨h.blk, h.nd⟩
theorem Kn.hp (h : Kn w L) : Hp w (ks L) w L := ⟨rfl, rfl, rfl, Nat.le_refl _, fun _ _ _ => rfl, h.blk, fun p hp => .inl (List.mem_map_of_mem hp), h.nd⟩
theorem Kn.sub (h : Kn w L) (hs : L'.Sublist L) : Kn w L' := ⟨fun p hp => h.blk p (hs.subset hp), h.nd.sublist (hs.map _)⟩
theorem Hp.sub (h : Hp w0 fp w L) (hs : L'.Sublist L) : Hp w0 fp w L' := ⟨h.os, h.tape, h.output, h.size, h.old, fun p hp => h.blk p (hs.subset hp), fun p hp => h.own p (hs.subset hp), h.nd.sublist (hs.map _)⟩
theorem Hp.perm (h : Hp w0 fp w L) (hs : L'.Perm L) : Hp w0 fp w L' := ⟨h.os, h.tape, h.output, h.size, h.old, fun p hp => h.blk p (hs.subset hp), fun p hp => h.own p (hs.subset hp), (hs.map _).nodup_iff.2 h.nd⟩
theorem Kn.lt (h : Kn w L) {p : Nat × Obj} (hp : p ∈ L) : p.1 < w.heap.size := (Array.getElem?_eq_some_iff.1 (h.blk p hp)).1
/-- a call that changes a part of what is known. -/
theorem Hp.call (A : Mem) {B Q Q' : Mem} (h : Hp w0 fp w (A ++ (Q ++ B))) (hc : Hp w (ks Q) w' Q') : Hp w0 fp w' (A ++ (Q' ++ B)) := by
  have hnd := h.nd
  simp only [List.map_append, List.nodup_append, List.mem_append] at hnd
  obtain ⟨nA, ⟨nQ, nB, dQB⟩, dA⟩ := hnd
  have lt : ∀ p, p ∈ A ∨ p ∈ B → p.1 < w.heap.size ∧ p.1 ∉ ks Q ∧ p.1 ∉ ks Q' := by
    intro p hp
    have h1 : p ∈ A ++ (Q ++ B) := by simp; rcases hp with hp | hp <;> simp [hp]
    have h2 := h.ltm h1
    have h3 : p.1 ∉ ks Q := by
      intro hq
      rcases hp with hp | hp
      · exact dA p.1 (List.mem_map_of_mem hp) p.1 (.inl hq) rfl
      · exact dQB p.1 hq p.1 (List.mem_map_of_mem hp) rfl
    refine ⟨h2, h3, fun hq => ?_⟩
    obtain ⟨q, hq1, hq2⟩ := List.mem_map.1 hq
    rcases hc.own q hq1 with h4 | h4
    · exact h3 (hq2 ▸ h4)
    · omega
  refine ⟨hc.os.trans h.os, hc.tape.trans h.tape, hc.output.trans h.output, Nat.le_trans h.size hc.size, fun k hk hf => ?_, ?_, ?_, ?_⟩
  · rw [hc.old k (Nat.lt_of_lt_of_le hk h.size) (fun hq => ?_)]
    · exact h.old k hk hf
    · obtain ⟨q, hq1, hq2⟩ := List.mem_map.1 hq
      rcases h.own q (by simp [hq1]) with h4 | h4
      · exact hf (hq2 ▸ h4)
      · omega
  · intro p hp
    simp only [List.mem_append] at hp
    rcases hp with hp | hp | hp
    · have := lt p (.inl hp); rw [hc.old p.1 this.1 this.2.1]; exact h.blk p (by simp [hp])
    · exact hc.blk p hp
    · have := lt p (.inr hp); rw [hc.old p.1 this.1 this.2.1]; exact h.blk p (by simp [hp])
  · intro p hp
    simp only [List.mem_append] at hp
    rcases hp with hp | hp | hp
    · exact h.own p (by simp [hp])
    · rcases hc.own p hp with h4 | h4
      · obtain ⟨q, hq1, hq2⟩ := List.mem_map.1 h4
        rw [← hq2]; exact h.own q (by simp [hq1])
      · exact .inr (Nat.le_trans h.size h4)
    · exact h.own p (by simp [hp])
  · simp only [List.map_append, List.nodup_append, List.mem_append]
    refine ⟨nA, ⟨hc.nd, nB, ?_⟩, ?_⟩
    · rintro a ha b hb rfl
      obtain ⟨p, hp, rfl⟩ := List.mem_map.1 hb
      exact (lt p (.inr hp)).2.2 ha
    · rintro a ha b hb rfl
      obtain ⟨p, hp, rfl⟩ := List.mem_map.1 ha
      rcases hb with hb | hb
      · exact (lt p (.inl hp)).2.2 hb
      · exact dA p.1 (List.mem_map_of_mem hp) p.1 (.inr hb) rfl
/-- a call that only reads what is known. -/
theorem Hp.belowQ (h : Hp w (ks Q) w' (Q ++ B)) (hk : Kn w Q) : Below w.heap.size w w' := by
  refine ⟨h.os, h.tape, h.output, h.size, fun k hk1 => ?_⟩
  by_cases hq : k ∈ ks Q
  · obtain ⟨p, hp, rfl⟩ := List.mem_map.1 hq
    rw [h.blk p (by simp [hp]), hk.blk p hp]
  · exact h.old k hk1 hq
end
/-! ### pieces of a block -/
def Cut (bs : List Value) (k : Nat) (cs : List Value) : Prop := ∀ j v, cs[j]? = some v → bs[k + j]? = some v
def spl (bs : List Value) (k : Nat) (cs : List Value) : List Value := bs.take k ++ cs ++ bs.drop (k + cs.length)
def Rows {R : Type} (m : Nat) (enc : R → List Value) (bs : List Value) (o : Nat) (rs : List R) : Prop := ∀ i r, rs[i]? = some r → Cut bs (o + i * m) (enc r)
theorem At.of {w : World} {g k : Nat} {t : TypeId} {bs cs : List Value} (hg : w.heap[g]? = some (C t bs)) (hc : Cut bs k cs) : At w ⟨g, k, none⟩ cs := fun j v hv => by
  rw [add_none, cell_of_row w g (k + j) bs.toArray t (0, 0) hg]
  simpa using hc j v hv
theorem Cut.len {bs cs : List Value} {k : Nat} (h : Cut bs k cs) (h0 : cs ≠ []) : k + cs.length ≤ bs.length := by
  have hl : 0 < cs.length := List.length_pos_iff.2 h0
  have h1 := h (cs.length - 1) _ (List.getElem?_eq_getElem (by omega))
  have := (List.getElem?_eq_some_iff.1 h1).1
  omega
theorem spl_self {bs cs : List Value} {k : Nat} (h : Cut bs k cs) : spl bs k cs = bs := by
  by_cases h0 : cs = []
  · subst h0; simp [spl]
  · have hl := h.len h0
    have e : (bs.drop k).take cs.length = cs := by
      apply List.ext_getElem?
      intro j
      rw [List.getElem?_take]
      split
      · rename_i hj
        rw [List.getElem?_drop, h j _ (List.getElem?_eq_getElem hj), List.getElem?_eq_getElem hj]
      · rename_i hj; rw [List.getElem?_eq_none (by omega)]
    unfold spl
    conv => lhs; rw [← e]
    rw [e, ← List.drop_drop, List.append_assoc]
    conv => lhs; rhs; lhs; rw [← e]
    rw [List.take_append_drop, List.take_append_drop]
theorem spl_get {bs cs : List Value} {k j : Nat} (hk : k ≤ bs.length) (hj : j < cs.length) : (spl bs k cs)[k + j]? = cs[j]? := by
  unfold spl
  have e : (bs.take k).length = k := by simp [hk]
  rw [List.append_assoc, List.getElem?_append_right (by omega), e, Nat.add_sub_cancel_left, List.getElem?_append_left hj]
theorem spl_set {bs cs : List Value} {k j : Nat} {v : Value} (hk : k ≤ bs.length) (hj : j < cs.length) : (spl bs k cs).set (k + j) v = spl bs k (cs.set j v) := by
  unfold spl
  have e : (bs.take k).length = k := by simp [hk]
  rw [List.append_assoc, List.set_append_right _ _ (by omega), e, Nat.add_sub_cancel_left, List.set_append_left _ _ hj, ← List.append_assoc, List.length_set]
theorem spl_len {bs cs : List Value} {k : Nat} (hk : k + cs.length ≤ bs.length) : (spl bs k cs).length = bs.length := by
  unfold spl; simp; omega
theorem flat_len {R : Type} {m : Nat} {enc : R → List Value} : ∀ {rs : List R}, (∀ r ∈ rs, (enc r).length = m) → ((rs.map enc).flatten).length = rs.length * m
  | [], _ => by simp
  | a :: rs, h => by
    have := flat_len (rs := rs) fun r hr => h r (by simp [hr])
    simp only [List.map_cons, List.flatten_cons, List.length_append, this, h a (by simp), List.length_cons, Nat.add_mul]
    omega
theorem Rows.flat {R : Type} {m : Nat} {enc : R → List Value} {rs : List R} {pad : List Value} (hm : ∀ r ∈ rs, (enc r).length = m) : Rows m enc ((rs.map enc).flatten ++ pad) 0 rs := fun i r hr j v hv => by
  have := flat_get hm i j r v hr hv
  rw [Nat.zero_add, List.getElem?_append_left (List.getElem?_eq_some_iff.1 this).1]
  exact this
theorem flat_split {R : Type} {m : Nat} {enc : R → List Value} {rs : List R} (hm : ∀ r ∈ rs, (enc r).length = m) (i : Nat) : (rs.map enc).flatten.take (i * m) = ((rs.take i).map enc).flatten ∧ (rs.map enc).flatten.drop (i * m) = ((rs.drop i).map enc).flatten := by
  have e : (rs.map enc).flatten = ((rs.take i).map enc).flatten ++ ((rs.drop i).map enc).flatten := by
    rw [← List.flatten_append, ← List.map_append, List.take_append_drop]
  by_cases hi : i ≤ rs.length
  · have hl : (((rs.take i).map enc).flatten).length = i * m := by
      rw [flat_len fun r hr => hm r (List.mem_of_mem_take hr)]; simp [Nat.min_eq_left hi]
    rw [e, ← hl]
    exact ⟨List.take_left, List.drop_left⟩
  · have hl : ((rs.map enc).flatten).length ≤ i * m := by rw [flat_len hm]; exact Nat.mul_le_mul_right _ (by omega)
    rw [List.take_of_length_le hl, List.drop_of_length_le hl, List.take_of_length_le (by omega), List.drop_of_length_le (by omega)]
    simp
theorem set_split {R : Type} {rs : List R} {i : Nat} {r : R} (hi : i < rs.length) : rs.set i r = rs.take i ++ r :: rs.drop (i + 1) := by
  rw [List.set_eq_take_append_cons_drop, if_pos hi]
theorem spl_rows {R : Type} {m i : Nat} {enc : R → List Value} {rs : List R} {pad : List Value} {r : R} (hm : ∀ r ∈ rs, (enc r).length = m) (hr : (enc r).length = m) (hi : i < rs.length) : spl ((rs.map enc).flatten ++ pad) (i * m) (enc r) = ((rs.set i r).map enc).flatten ++ pad := by
  have h1 := flat_split hm i
  have h2 := flat_split hm (i + 1)
  have hl := flat_len hm
  have hle : (i + 1) * m ≤ rs.length * m := Nat.mul_le_mul_right _ hi
  rw [Nat.add_mul, Nat.one_mul] at hle
  unfold spl
  rw [List.take_append_of_le_length (by omega), hr, List.drop_append_of_le_length (by omega), h1.1]
  rw [show i * m + m = (i + 1) * m by rw [Nat.add_mul, Nat.one_mul], h2.2, set_split hi]
  simp
theorem spl_rows0 {R : Type} {m i k : Nat} {enc : R → List Value} {rs : List R} {pad cs : List Value} (r : R) (hk : k = 0 + i * m) (hcs : cs = enc r) (hm : ∀ r ∈ rs, (enc r).length = m) (hr : (enc r).length = m) (hi : i < rs.length) : spl ((rs.map enc).flatten ++ pad) k cs = ((rs.set i r).map enc).flatten ++ pad := by
  rw [hk, hcs, Nat.zero_add]; exact spl_rows hm hr hi
theorem SlR.row {R : Type} {m g o : Nat} {enc : R → List Value} {rs : List R} {t : TypeId} {bs : List Value} {w : World} (hg : w.heap[g]? = some (C t bs)) (h : Rows m enc bs o rs) : SlR m enc w (some ⟨g, o, none⟩) rs.length rs :=
  ⟨rfl, fun i r hr => ⟨_, rfl, by
    have h1 : (⟨g, o, none⟩ : Addr).add (i * m) = ⟨g, o + i * m, none⟩ := add_none _ _ _
    rw [h1]; exact At.of hg (h i r hr)⟩⟩
/-! ### operations -/
section
variable {P : Program} {n d : Nat} {ops : Array Oper} {rest : List Oper} {Q : Exit → Fr → World → Prop} {f : Fr} {w w0 : World} {fp : List Nat} {L : Mem} {v u : Value} {t ty ty' : TypeId} {pos : String} {aft : Array Edge} {x y z : Operand} {Cq : World → Prop} {Kq : Fr → Prop}
theorem run_ia {m N c g o : Nat} {e : TypeId} {k : IntKind} {i : Int} (ht : SlE P t e) (hm : Sz P e m) (h0 : 0 ≤ i) (h1 : i < N) (w : World) : (Instr.indexAt t (.slice (some ⟨g, o, none⟩) N c) (.int k i)).run P w = .ok (.pointer (some ⟨g, o + i.toNat * m, none⟩)) w := by
  have h2 : P.underlying t = some (.slice e) := ht.out
  have h3 : (⟨g, o, none⟩ : Addr).add (i.toNat * m) = ⟨g, o + i.toNat * m, none⟩ := add_none _ _ _
  simp [Instr.indexAt, asIntOf, run_underlying h2, run_sizeOf, h0, h1, go_sem, h3]
/-- an index into a slice of a known block, to read: the piece that lies there. -/
theorem o_iaK {R : Type} {m N c g o : Nat} {e : TypeId} {enc : R → List Value} {bs : List Value} {rs : List R} {k : IntKind} {i : Int} (hs : Rows m enc bs o rs) (ht : SlE P t e) (hm : Sz P e m) (hx : ev f x = .slice (some ⟨g, o, none⟩) N c) (hy : ev f y = .int k i) (h0 : 0 ≤ i) (h1 : i < N) (hN : N = rs.length) (hb : Nat.blt d n = true)
    (h : ∀ a r, a = o + i.toNat * m → rs[i.toNat]? = some r → Cut bs a (enc r) → WL P n ops rest Q (upd f d (.pointer (some ⟨g, a, none⟩))) w) : WL P n ops (⟨some d, .indexAddr t x y, ty, pos, aft, none⟩ :: rest) Q f w := by
  have hlt : i.toNat < rs.length := by omega
  exact o_val rfl rfl hb (by simp [execOp, hx, hy, run_ia ht hm h0 h1]) (h _ rs[i.toNat] rfl (List.getElem?_eq_getElem hlt) (hs _ _ (List.getElem?_eq_getElem hlt)))
theorem q_iaK {R : Type} {m N c g o : Nat} {e : TypeId} {enc : R → List Value} {bs : List Value} {rs : List R} {k : IntKind} {i : Int} (hs : Rows m enc bs o rs) (ht : SlE P t e) (hm : Sz P e m) (hx : ev f x = .slice (some ⟨g, o, none⟩) N c) (hy : ev f y = .int k i) (h0 : 0 ≤ i) (h1 : i < N) (hN : N = rs.length) (hb : Nat.blt d n = true)
    (h : ∀ a r, a = o + i.toNat * m → rs[i.toNat]? = some r → Cut bs a (enc r) → QL P n ops Cq rest Kq (upd f d (.pointer (some ⟨g, a, none⟩)))) : QL P n ops Cq (⟨some d, .indexAddr t x y, ty, pos, aft, none⟩ :: rest) Kq f := by
  have hlt : i.toNat < rs.length := by omega
  exact q_val rfl rfl hb (fun w hp => by simp [execOp, hx, hy, run_ia ht hm h0 h1]) (h _ rs[i.toNat] rfl (List.getElem?_eq_getElem hlt) (hs _ _ (List.getElem?_eq_getElem hlt)))
/-- a load out of a piece of a known block. -/
theorem o_loadC1 {g k off i : Nat} {tb : TypeId} {bs cs : List Value} (hp : Hp w0 fp w L) (hs : Sc P t) (hx : ev f x = .pointer (some ⟨g, k + off, none⟩)) (hi : L[i]? = some (g, C tb bs)) (hc : Cut bs k cs) (hv : cs[off]? = some v) (hb : Nat.blt d n = true) (h : WL P n ops rest Q (upd f d v) w) : WL P n ops (⟨some d, .load t x, ty, pos, aft, none⟩ :: rest) Q f w :=
  o_load1 hp hs hx hi (hc off v hv) hb h
theorem o_loadC0 {g k i : Nat} {tb : TypeId} {bs cs : List Value} (hp : Hp w0 fp w L) (hs : Sc P t) (hx : ev f x = .pointer (some ⟨g, k, none⟩)) (hi : L[i]? = some (g, C tb bs)) (hc : Cut bs k cs) (hv : cs[0]? = some v) (hb : Nat.blt d n = true) (h : WL P n ops rest Q (upd f d v) w) : WL P n ops (⟨some d, .load t x, ty, pos, aft, none⟩ :: rest) Q f w :=
  o_load1 hp hs hx hi (hc 0 v hv) hb h
theorem q_loadC1 {g k off i : Nat} {tb : TypeId} {bs cs : List Value} (hs : Sc P t) (hx : ev f x = .pointer (some ⟨g, k + off, none⟩)) (hi : L[i]? = some (g, C tb bs)) (hc : Cut bs k cs) (hv : cs[off]? = some v) (hb : Nat.blt d n = true) (h : QL P n ops (fun w => Hp w0 fp w L) rest Kq (upd f d v)) : QL P n ops (fun w => Hp w0 fp w L) (⟨some d, .load t x, ty, pos, aft, none⟩ :: rest) Kq f :=
  q_load1 hs hx hi (hc off v hv) hb h
theorem q_loadC0 {g k i : Nat} {tb : TypeId} {bs cs : List Value} (hs : Sc P t) (hx : ev f x = .pointer (some ⟨g, k, none⟩)) (hi : L[i]? = some (g, C tb bs)) (hc : Cut bs k cs) (hv : cs[0]? = some v) (hb : Nat.blt d n = true) (h : QL P n ops (fun w => Hp w0 fp w L) rest Kq (upd f d v)) : QL P n ops (fun w => Hp w0 fp w L) (⟨some d, .load t x, ty, pos, aft, none⟩ :: rest) Kq f :=
  q_load1 hs hx hi (hc 0 v hv) hb h
theorem run_loadCut {m g k i : Nat} {tb : TypeId} {bs cs : List Value} (hp : Hp w0 fp w L) (hs : Ag P t) (hm : Sz P t m) (hi : L[i]? = some (g, C tb bs)) (hc : Cut bs k cs) (hl : cs.length = m) : (loadVar t ⟨g, k, none⟩).run P w = .ok (.agg cs.toArray) w := by
  have hlc : (loadCells ⟨g, k, none⟩ cs.length).run P w = .ok cs.toArray w := run_loadCells_list (P := P) w ⟨g, k, none⟩ _ (At.of (hp.at_ hi) hc)
  unfold loadVar
  rw [hl] at hlc
  simp [run_isAgg_yes, run_sizeOf, hlc]
theorem o_loadCA {m g k i : Nat} {tb : TypeId} {bs cs : List Value} (hp : Hp w0 fp w L) (hs : Ag P t) (hm : Sz P t m) (hx : ev f x = .pointer (some ⟨g, k, none⟩)) (hi : L[i]? = some (g, C tb bs)) (hc : Cut bs k cs) (hl : cs.length = m) (hb : Nat.blt d n = true) (h : WL P n ops rest Q (upd f d (.agg cs.toArray)) w) : WL P n ops (⟨some d, .load t x, ty, pos, aft, none⟩ :: rest) Q f w :=
  o_val rfl rfl hb (by simp [execOp, Instr.loadAt, Instr.sureAddr, hx, run_loadCut hp hs hm hi hc hl]) h
theorem q_loadCA {m g k i : Nat} {tb : TypeId} {bs cs : List Value} (hs : Ag P t) (hm : Sz P t m) (hx : ev f x = .pointer (some ⟨g, k, none⟩)) (hi : L[i]? = some (g, C tb bs)) (hc : Cut bs k cs) (hl : cs.length = m) (hb : Nat.blt d n = true) (h : QL P n ops (fun w => Hp w0 fp w L) rest Kq (upd f d (.agg cs.toArray))) : QL P n ops (fun w => Hp w0 fp w L) (⟨some d, .load t x, ty, pos, aft, none⟩ :: rest) Kq f :=
  q_val rfl rfl hb (fun w hp => by simp [execOp, Instr.loadAt, Instr.sureAddr, hx, run_loadCut hp hs hm hi hc hl]) h
/-- a load at an address of which the cells are known in the world at hand. -/
theorem o_loadAt1 {a : Addr} {cs : List Value} (hs : Sc P t) (hx : ev f x = .pointer (some a)) (hat : At w a cs) (hl : cs[0]? = some v) (hb : Nat.blt d n = true) (h : WL P n ops rest Q (upd f d v) w) : WL P n ops (⟨some d, .load t x, ty, pos, aft, none⟩ :: rest) Q f w :=
  o_val rfl rfl hb (by
    have hc : w.cell? a = some v := by have := hat 0 v hl; rwa [Addr.add_zero] at this
    simp [execOp, Instr.loadAt, Instr.sureAddr, loadVar, hx, run_isAgg_no, hc, go_sem]) h
theorem o_loadAtA {m : Nat} {a : Addr} {cs : List Value} (hs : Ag P t) (hm : Sz P t m) (hx : ev f x = .pointer (some a)) (hat : At w a cs) (hl : cs.length = m) (hb : Nat.blt d n = true) (h : WL P n ops rest Q (upd f d (.agg cs.toArray)) w) : WL P n ops (⟨some d, .load t x, ty, pos, aft, none⟩ :: rest) Q f w :=
  o_val rfl rfl hb (by
    have hlc : (loadCells a cs.length).run P w = .ok cs.toArray w := run_loadCells_list (P := P) w a _ hat
    have hlv : (loadVar t a).run P w = .ok (.agg cs.toArray) w := by
      unfold loadVar
      rw [hl] at hlc
      simp [run_isAgg_yes, run_sizeOf, hlc]
    simp [execOp, Instr.loadAt, Instr.sureAddr, hx, hlv]) h
/-- an index into a slice of a known block, to write: the block is written as a splice. -/
theorem o_iaS {R : Type} {m N c g o j : Nat} {e tb : TypeId} {enc : R → List Value} {bs : List Value} {rs : List R} {k : IntKind} {i : Int} (hp : Hp w0 fp w L) (hi : L[j]? = some (g, C tb bs)) (hs : Rows m enc bs o rs) (ht : SlE P t e) (hm : Sz P e m) (hx : ev f x = .slice (some ⟨g, o, none⟩) N c) (hy : ev f y = .int k i) (h0 : 0 ≤ i) (h1 : i < N) (hN : N = rs.length) (hb : Nat.blt d n = true)
    (h : ∀ a r, a = o + i.toNat * m → rs[i.toNat]? = some r → Cut bs a (enc r) → Hp w0 fp w (L.set j (g, C tb (spl bs a (enc r)))) → WL P n ops rest Q (upd f d (.pointer (some ⟨g, a, none⟩))) w) : WL P n ops (⟨some d, .indexAddr t x y, ty, pos, aft, none⟩ :: rest) Q f w := by
  refine o_iaK hs ht hm hx hy h0 h1 hN hb fun a r ha hr hc => h a r ha hr hc ?_
  rw [spl_self hc]
  have : L.set j (g, C tb bs) = L := by
    obtain ⟨hlt, he⟩ := List.getElem?_eq_some_iff.1 hi
    rw [← he]; exact List.set_getElem_self hlt
  rw [this]; exact hp
theorem o_loadS1 {g k off i : Nat} {tb : TypeId} {bs cs : List Value} (hp : Hp w0 fp w L) (hs : Sc P t) (hx : ev f x = .pointer (some ⟨g, k + off, none⟩)) (hi : L[i]? = some (g, C tb (spl bs k cs))) (hk : k ≤ bs.length) (hv : cs[off]? = some v) (hb : Nat.blt d n = true) (h : WL P n ops rest Q (upd f d v) w) : WL P n ops (⟨some d, .load t x, ty, pos, aft, none⟩ :: rest) Q f w :=
  o_load1 hp hs hx hi (by rw [spl_get hk (List.getElem?_eq_some_iff.1 hv).1]; exact hv) hb h
theorem o_storeS {g k off i : Nat} {tb : TypeId} {bs cs : List Value} (hp : Hp w0 fp w L) (hs : Sz P t 1) (hx : ev f x = .pointer (some ⟨g, k + off, none⟩)) (hy : ev f y = v) (h1 : v.cells = #[v]) (h2 : v.oneCell' = true) (hi : L[i]? = some (g, C tb (spl bs k cs))) (hk : k + cs.length ≤ bs.length) (hj : Nat.blt off cs.length = true)
    (h : ∀ w', Hp w0 fp w' (L.set i (g, C tb (spl bs k (cs.set off v)))) → WL P n ops rest Q f w') : WL P n ops (⟨none, .store t x y, ty, pos, aft, none⟩ :: rest) Q f w := by
  have hj' : off < cs.length := by simpa using hj
  refine o_store1 hp hs hx hy h1 h2 hi (by simp [spl_len hk]; omega) fun w' hp' => h w' ?_
  rw [spl_set (by omega) hj'] at hp'; exact hp'
theorem o_storeS0 {g k i : Nat} {tb : TypeId} {bs : List Value} {c : Value} (hp : Hp w0 fp w L) (hs : Sz P t 1) (hx : ev f x = .pointer (some ⟨g, k, none⟩)) (hy : ev f y = v) (h1 : v.cells = #[v]) (h2 : v.oneCell' = true) (hi : L[i]? = some (g, C tb (spl bs k [c]))) (hk : k + 1 ≤ bs.length)
    (h : ∀ w', Hp w0 fp w' (L.set i (g, C tb (spl bs k [v]))) → WL P n ops rest Q f w') : WL P n ops (⟨none, .store t x y, ty, pos, aft, none⟩ :: rest) Q f w :=
  o_storeS (off := 0) (cs := [c]) hp hs hx hy h1 h2 hi hk rfl h
theorem o_storeS_i {k0 : IntKind} {a : Int} {g k off i : Nat} {tb : TypeId} {bs cs : List Value} (hp : Hp w0 fp w L) (hs : Sz P t 1) (hx : ev f x = .pointer (some ⟨g, k + off, none⟩)) (hy : ev f y = .int k0 a) (hi : L[i]? = some (g, C tb (spl bs k cs))) (hk : k + cs.length ≤ bs.length) (hj : Nat.blt off cs.length = true)
    (h : ∀ w', Hp w0 fp w' (L.set i (g, C tb (spl bs k (cs.set off (.int k0 a))))) → WL P n ops rest Q f w') : WL P n ops (⟨none, .store t x y, ty, pos, aft, none⟩ :: rest) Q f w := o_storeS hp hs hx hy rfl rfl hi hk hj h
theorem o_storeS0_i {k0 : IntKind} {a : Int} {g k i : Nat} {tb : TypeId} {bs : List Value} {c0 : Value} (hp : Hp w0 fp w L) (hs : Sz P t 1) (hx : ev f x = .pointer (some ⟨g, k, none⟩)) (hy : ev f y = .int k0 a) (hi : L[i]? = some (g, C tb (spl bs k [c0]))) (hk : k + 1 ≤ bs.length)
    (h : ∀ w', Hp w0 fp w' (L.set i (g, C tb (spl bs k [.int k0 a]))) → WL P n ops rest Q f w') : WL P n ops (⟨none, .store t x y, ty, pos, aft, none⟩ :: rest) Q f w := o_storeS0 hp hs hx hy rfl rfl hi hk h
theorem o_storeS_b {b : Bool} {g k off i : Nat} {tb : TypeId} {bs cs : List Value} (hp : Hp w0 fp w L) (hs : Sz P t 1) (hx : ev f x = .pointer (some ⟨g, k + off, none⟩)) (hy : ev f y = .bool b) (hi : L[i]? = some (g, C tb (spl bs k cs))) (hk : k + cs.length ≤ bs.length) (hj : Nat.blt off cs.length = true)
    (h : ∀ w', Hp w0 fp w' (L.set i (g, C tb (spl bs k (cs.set off (.bool b))))) → WL P n ops rest Q f w') : WL P n ops (⟨none, .store t x y, ty, pos, aft, none⟩ :: rest) Q f w := o_storeS hp hs hx hy rfl rfl hi hk hj h
theorem o_storeS0_b {b : Bool} {g k i : Nat} {tb : TypeId} {bs : List Value} {c0 : Value} (hp : Hp w0 fp w L) (hs : Sz P t 1) (hx : ev f x = .pointer (some ⟨g, k, none⟩)) (hy : ev f y = .bool b) (hi : L[i]? = some (g, C tb (spl bs k [c0]))) (hk : k + 1 ≤ bs.length)
    (h : ∀ w', Hp w0 fp w' (L.set i (g, C tb (spl bs k [.bool b]))) → WL P n ops rest Q f w') : WL P n ops (⟨none, .store t x y, ty, pos, aft, none⟩ :: rest) Q f w := o_storeS0 hp hs hx hy rfl rfl hi hk h
theorem o_storeS_s {s : ByteArray} {g k off i : Nat} {tb : TypeId} {bs cs : List Value} (hp : Hp w0 fp w L) (hs : Sz P t 1) (hx : ev f x = .pointer (some ⟨g, k + off, none⟩)) (hy : ev f y = .string s) (hi : L[i]? = some (g, C tb (spl bs k cs))) (hk : k + cs.length ≤ bs.length) (hj : Nat.blt off cs.length = true)
    (h : ∀ w', Hp w0 fp w' (L.set i (g, C tb (spl bs k (cs.set off (.string s))))) → WL P n ops rest Q f w') : WL P n ops (⟨none, .store t x y, ty, pos, aft, none⟩ :: rest) Q f w := o_storeS hp hs hx hy rfl rfl hi hk hj h
theorem o_storeS0_s {s : ByteArray} {g k i : Nat} {tb : TypeId} {bs : List Value} {c0 : Value} (hp : Hp w0 fp w L) (hs : Sz P t 1) (hx : ev f x = .pointer (some ⟨g, k, none⟩)) (hy : ev f y = .string s) (hi : L[i]? = some (g, C tb (spl bs k [c0]))) (hk : k + 1 ≤ bs.length)
    (h : ∀ w', Hp w0 fp w' (L.set i (g, C tb (spl bs k [.string s]))) → WL P n ops rest Q f w') : WL P n ops (⟨none, .store t x y, ty, pos, aft, none⟩ :: rest) Q f w := o_storeS0 hp hs hx hy rfl rfl hi hk h
theorem o_storeS_p {p : Option Addr} {g k off i : Nat} {tb : TypeId} {bs cs : List Value} (hp : Hp w0 fp w L) (hs : Sz P t 1) (hx : ev f x = .pointer (some ⟨g, k + off, none⟩)) (hy : ev f y = .pointer p) (hi : L[i]? = some (g, C tb (spl bs k cs))) (hk : k + cs.length ≤ bs.length) (hj : Nat.blt off cs.length = true)
    (h : ∀ w', Hp w0 fp w' (L.set i (g, C tb (spl bs k (cs.set off (.pointer p))))) → WL P n ops rest Q f w') : WL P n ops (⟨none, .store t x y, ty, pos, aft, none⟩ :: rest) Q f w := o_storeS hp hs hx hy rfl rfl hi hk hj h
theorem o_storeS0_p {p : Option Addr} {g k i : Nat} {tb : TypeId} {bs : List Value} {c0 : Value} (hp : Hp w0 fp w L) (hs : Sz P t 1) (hx : ev f x = .pointer (some ⟨g, k, none⟩)) (hy : ev f y = .pointer p) (hi : L[i]? = some (g, C tb (spl bs k [c0]))) (hk : k + 1 ≤ bs.length)
    (h : ∀ w', Hp w0 fp w' (L.set i (g, C tb (spl bs k [.pointer p]))) → WL P n ops rest Q f w') : WL P n ops (⟨none, .store t x y, ty, pos, aft, none⟩ :: rest) Q f w := o_storeS0 hp hs hx hy rfl rfl hi hk h
theorem o_storeS_sl {p : Option Addr} {m c : Nat} {g k off i : Nat} {tb : TypeId} {bs cs : List Value} (hp : Hp w0 fp w L) (hs : Sz P t 1) (hx : ev f x = .pointer (some ⟨g, k + off, none⟩)) (hy : ev f y = .slice p m c) (hi : L[i]? = some (g, C tb (spl bs k cs))) (hk : k + cs.length ≤ bs.length) (hj : Nat.blt off cs.length = true)
    (h : ∀ w', Hp w0 fp w' (L.set i (g, C tb (spl bs k (cs.set off (.slice p m c))))) → WL P n ops rest Q f w') : WL P n ops (⟨none, .store t x y, ty, pos, aft, none⟩ :: rest) Q f w := o_storeS hp hs hx hy rfl rfl hi hk hj h
theorem o_storeS0_sl {p : Option Addr} {m c : Nat} {g k i : Nat} {tb : TypeId} {bs : List Value} {c0 : Value} (hp : Hp w0 fp w L) (hs : Sz P t 1) (hx : ev f x = .pointer (some ⟨g, k, none⟩)) (hy : ev f y = .slice p m c) (hi : L[i]? = some (g, C tb (spl bs k [c0]))) (hk : k + 1 ≤ bs.length)
    (h : ∀ w', Hp w0 fp w' (L.set i (g, C tb (spl bs k [.slice p m c]))) → WL P n ops rest Q f w') : WL P n ops (⟨none, .store t x y, ty, pos, aft, none⟩ :: rest) Q f w := o_storeS0 hp hs hx hy rfl rfl hi hk h
theorem o_storeS_mp {r : Option Nat} {g k off i : Nat} {tb : TypeId} {bs cs : List Value} (hp : Hp w0 fp w L) (hs : Sz P t 1) (hx : ev f x = .pointer (some ⟨g, k + off, none⟩)) (hy : ev f y = .map r) (hi : L[i]? = some (g, C tb (spl bs k cs))) (hk : k + cs.length ≤ bs.length) (hj : Nat.blt off cs.length = true)
    (h : ∀ w', Hp w0 fp w' (L.set i (g, C tb (spl bs k (cs.set off (.map r))))) → WL P n ops rest Q f w') : WL P n ops (⟨none, .store t x y, ty, pos, aft, none⟩ :: rest) Q f w := o_storeS hp hs hx hy rfl rfl hi hk hj h
theorem o_storeS0_mp {r : Option Nat} {g k i : Nat} {tb : TypeId} {bs : List Value} {c0 : Value} (hp : Hp w0 fp w L) (hs : Sz P t 1) (hx : ev f x = .pointer (some ⟨g, k, none⟩)) (hy : ev f y = .map r) (hi : L[i]? = some (g, C tb (spl bs k [c0]))) (hk : k + 1 ≤ bs.length)
    (h : ∀ w', Hp w0 fp w' (L.set i (g, C tb (spl bs k [.map r]))) → WL P n ops rest Q f w') : WL P n ops (⟨none, .store t x y, ty, pos, aft, none⟩ :: rest) Q f w := o_storeS0 hp hs hx hy rfl rfl hi hk h
/-- a struct stored at a place in a known block. -/
theorem o_storeSA {m g k i : Nat} {tb : TypeId} {bs cs vs : List Value} (hp : Hp w0 fp w L) (hm : Sz P t m) (hx : ev f x = .pointer (some ⟨g, k, none⟩)) (hy : ev f y = .agg vs.toArray) (hl : vs.length = m) (h1 : vs.all (·.oneCell') = true) (hi : L[i]? = some (g, C tb (spl bs k cs))) (hcl : cs.length = m) (hk : k + m ≤ bs.length)
    (h : ∀ w', Hp w0 fp w' (L.set i (g, C tb (spl bs k vs))) → WL P n ops rest Q f w') : WL P n ops (⟨none, .store t x y, ty, pos, aft, none⟩ :: rest) Q f w := by
  refine o_storeA hp hx hy hl h1 hi (by simp [spl_len (show k + cs.length ≤ bs.length by omega)]; omega) fun w' hp' => h w' ?_
  have e : (spl bs k cs).take k ++ vs ++ (spl bs k cs).drop (k + m) = spl bs k vs := by
    unfold spl
    have e1 : (bs.take k).length = k := by simp; omega
    rw [List.append_assoc (bs.take k), List.take_append_of_le_length (by omega), List.take_of_length_le (by omega)]
    congr 1
    rw [List.drop_append, List.drop_of_length_le (by omega), List.nil_append, e1, Nat.add_sub_cancel_left, List.drop_append, List.drop_of_length_le (by omega), List.nil_append, hcl, Nat.sub_self, List.drop_zero, hl]
  rw [e] at hp'; exact hp'
/-- closures. -/
theorem o_mkfn {fn : Fn} {a b : Array Operand} (hb : Nat.blt d n = true) (h : WL P n ops rest Q (upd f d (.func fn (a.map (ev f)) (b.map (ev f)))) w) : WL P n ops (⟨some d, .makeFunc fn a b, ty, pos, aft, none⟩ :: rest) Q f w :=
  o_val rfl rfl hb (by simp [execOp, Instr.makeFunc, go_sem]) h
theorem o_callv {fid : FuncId} {a b : Array Value} {xl : List Operand} {al : List Value} {ats : Array TypeId} {S : Value → World → Prop} [hcl : Cal P fid] (hf : ev f z = .func (.func fid) a b) (hc : Ret P fid al w S) (hargs : a.toList ++ xl.map (ev f) ++ b.toList = al) (hb : Nat.blt d n = true) (h : ∀ v w', S v w' → WL P n ops rest Q (upd f d v) w') : WL P n ops (⟨some d, .call { callee := .value z, args := xl.toArray, argTypes := ats }, ty, pos, aft, none⟩ :: rest) Q f w :=
  o_enter rfl rfl hb (by
    have he := hcl.out al.toArray w
    have e : a ++ (xl.map (ev f)).toArray ++ b = al.toArray := by
      apply Array.toList_inj.1; simpa using hargs
    unfold execOp
    simp [resolve, Deferred.ofValue, invoke, hf]
    rw [Array.append_assoc] at e
    rw [e]; exact he) hc h
/-- nil checks. -/
theorem o_nil {a : Addr} (hx : ev f x = .pointer (some a)) (hb : Nat.blt d n = true) (h : WL P n ops rest Q (upd f d (.pointer (some a))) w) : WL P n ops (⟨some d, .nilCheck x, ty, pos, aft, none⟩ :: rest) Q f w :=
  o_val rfl rfl hb (by simp [execOp, hx, go_sem]) h
theorem q_nilc {a : Addr} (hx : ev f x = .pointer (some a)) (hb : Nat.blt d n = true) (h : QL P n ops Cq rest Kq (upd f d (.pointer (some a)))) : QL P n ops Cq (⟨some d, .nilCheck x, ty, pos, aft, none⟩ :: rest) Kq f :=
  q_val rfl rfl hb (fun w hp => by simp [execOp, hx, go_sem]) h
theorem run_eqnilIn (k : Nat) {e : TypeId} [ht : PtrT P t e] (p : Option Addr) : (Op.equalIn (k + 1) t (.pointer p) (.pointer none)).run P w = .ok p.isNone w := by
  have h1 : P.underlying t = some (.pointer e) := ht.out
  cases p <;> simp [Op.equalIn, run_underlying h1]
theorem run_eqnil {e : TypeId} [ht : PtrT P t e] (p : Option Addr) : (Op.equal t (.pointer p) (.pointer none)).run P w = .ok p.isNone w := run_eqnilIn 9999 p
theorem o_eqp {e : TypeId} {p : Option Addr} (ht : PtrT P t e) (hx : ev f x = .pointer p) (hy : ev f y = .pointer none) (hb : Nat.blt d n = true) (h : WL P n ops rest Q (upd f d (.bool p.isNone)) w) : WL P n ops (⟨some d, .binOp .eql t x y ty', ty, pos, aft, none⟩ :: rest) Q f w :=
  o_val rfl rfl hb (by simp [execOp, hx, hy, go_sem, eqGuard, binOp, run_eqnil]) h
theorem o_nep {e : TypeId} {p : Option Addr} (ht : PtrT P t e) (hx : ev f x = .pointer p) (hy : ev f y = .pointer none) (hb : Nat.blt d n = true) (h : WL P n ops rest Q (upd f d (.bool p.isSome)) w) : WL P n ops (⟨some d, .binOp .neq t x y ty', ty, pos, aft, none⟩ :: rest) Q f w :=
  o_val rfl rfl hb (by cases p <;> simp [execOp, hx, hy, go_sem, eqGuard, binOp, run_eqnil]) h
end
end Go.Proofs.Ytipjhbkjgidljaa.E
