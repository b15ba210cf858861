/- A step engine for walks: regions that draw their order and only read; further operations. -/
import Derived.Test.YtipjhbkjgidljaaEloop
import Derived.Laws.Strings
import Derived.Laws.Slices
set_option linter.unusedVariables false
set_option linter.unusedSimpArgs false
set_option linter.unusedSectionVars false
namespace Go.Proofs.Ytipjhbkjgidljaa.E
open Go Go.RowKit
def QL (P : Program) (n : Nat) (ops : Array Oper) (Cq : World → Prop) (rest : List Oper) (Kq : Fr → Prop) (f : Fr) : Prop := ∀ a, Rep n f a → wpQuiet P ops Cq (fun a' => ∃ f', Rep n f' a' ∧ Kq f') rest a
section
variable {P : Program} {n d : Nat} {ops : Array Oper} {rest : List Oper} {Cq : World → Prop} {Kq : Fr → Prop} {f : Fr} {v u : Value} {t ty ty' : TypeId} {pos : String} {aft : Array Edge} {x y z : Operand}
theorem q_nil (h : Kq f) : QL P n ops Cq [] Kq f := fun a ha => wpQuiet_nil ⟨f, ha, h⟩
theorem q_val {o : Oper} (hg : o.guard = none) (hd : o.dst = some d) (hb : Nat.blt d n = true) (hr : ∀ w, Cq w → (execOp (ev f) o).run P w = .ok (.value v) w) (h : QL P n ops Cq rest Kq (upd f d v)) : QL P n ops Cq (o :: rest) Kq f := fun a ha =>
  wpQuiet_step fun K hK => by
    rw [if_pos (by simp [Region.wanted, hg])]
    refine ⟨v, fun w hw => ?_, ?_⟩
    · unfold Oper.quietAt
      rw [ha.eval, hr w hw]
      exact ⟨rfl, rfl⟩
    · rw [hd]; exact hK _ (h _ (ha.put hb))
theorem q_enter {o : Oper} (hg : o.guard = none) (hd : o.dst = some d) (hb : Nat.blt d n = true) {fid : FuncId} {args : Array Value} (hr : ∀ w, (execOp (ev f) o).run P w = .ok (.enter fid args) w)
    (hc : ∀ w, Cq w → Calls P fid args w fun e w' => e = .returned v ∧ Cq w') (h : QL P n ops Cq rest Kq (upd f d v)) : QL P n ops Cq (o :: rest) Kq f := fun a ha =>
  wpQuiet_step fun K hK => by
    rw [if_pos (by simp [Region.wanted, hg])]
    refine ⟨v, fun w hw => ?_, ?_⟩
    · unfold Oper.quietAt
      rw [ha.eval, hr w]
      exact ⟨rfl, hc w hw⟩
    · rw [hd]; exact hK _ (h _ (ha.put hb))
theorem q_guard {o : Oper} {j : Nat} {want b : Bool} {t : Tmp} (hg : o.guard = some (j, want)) (hj : (ops[j]?).bind (·.dst) = some t) (hb : f t = .bool b)
    (h1 : b = want → QL P n ops Cq ({ o with guard := none } :: rest) Kq f) (h2 : b ≠ want → ∀ d, o.dst = some d → Nat.blt d n = true ∧ QL P n ops Cq rest Kq (upd f d undef)) (h3 : o.dst.isSome = true) : QL P n ops Cq (o :: rest) Kq f := fun a ha => by
  have hy : yielded ops a.tmps j = some b := by
    have h0 : a.tmps.getD t undef = .bool b := (ha.2.2 t).trans hb
    unfold yielded
    rw [hj]
    simp only [Option.bind_some]
    rw [Array.getD_eq_getD_getElem?] at h0
    cases hh : a.tmps[t]? with
    | none => rw [hh] at h0; cases h0
    | some x => rw [hh] at h0; simp at h0; subst h0; rfl
  by_cases e : b = want
  · have hw : Region.wanted o (yielded ops a.tmps) = true := by simp [Region.wanted, hg, hy, e]
    have h4 := h1 e a ha
    unfold wpQuiet at h4 ⊢
    rw [if_pos hw]
    rw [if_pos (by simp [Region.wanted])] at h4
    exact h4
  · have hw : ¬ Region.wanted o (yielded ops a.tmps) = true := by simp [Region.wanted, hg, hy, e]
    unfold wpQuiet
    rw [if_neg hw]
    obtain ⟨d, hd⟩ := Option.isSome_iff_exists.1 h3
    obtain ⟨h5, h6⟩ := h2 e d hd
    rw [hd]
    exact h6 _ (ha.put h5)
theorem q_guard_u {j : Nat} {want : Bool} {op : Op} {s : Tmp} (hj : (ops[j]?).bind (·.dst) = some s) (hs : f s = undef) (hb : Nat.blt d n = true) (h : QL P n ops Cq rest Kq (upd f d undef)) : QL P n ops Cq (⟨some d, op, ty, pos, aft, some (j, want)⟩ :: rest) Kq f := fun a ha => by
  have hy : yielded ops a.tmps j = none := by
    have h0 : a.tmps.getD s undef = undef := (ha.2.2 s).trans hs
    unfold yielded
    rw [hj]
    simp only [Option.bind_some]
    rw [Array.getD_eq_getD_getElem?] at h0
    cases hh : a.tmps[s]? with
    | none => rfl
    | some x => rw [hh] at h0; simp at h0; subst h0; rfl
  unfold wpQuiet
  rw [if_neg (by simp [Region.wanted, hy])]
  exact h _ (ha.put hb)
theorem W_regionQ {Q : Exit → Fr → World → Prop} {w w0 : World} {fp : List Nat} {L : Mem} {id : Nat} {l : List Oper} (hp : Hp w0 fp w L) (hm : P.follows .mixedOrders = true) (hB : Region.lexB .any l.toArray = true)
    (h : QL P n l.toArray (fun w => Hp w0 fp w L) l (fun f' => ∀ w', Hp w0 fp w' L → Q .normal f' w') f) : W P n (.region id l.toArray true) Q f w := fun a ha =>
  wp_region_quiet (C := fun w => Hp w0 fp w L) hm hB (show Hp w0 fp { w with drawn := w.drawn + 1 } L from ⟨hp.os, hp.tape, hp.output, hp.size, hp.old, hp.blk, hp.own, hp.nd⟩) (by
    have e : l.toArray.toList = l := by simp
    rw [e]
    refine wpQuiet_mono' (fun a' ⟨f', hf', hk⟩ => fun w' hw' => ⟨f', hf', hk w' hw'⟩) l a (h a ha))
where wpQuiet_mono' {P : Program} {ops : Array Oper} {C : World → Prop} {K K' : Act → Prop} (hk : ∀ a, K a → K' a) : ∀ (l : List Oper) (a : Act), wpQuiet P ops C K l a → wpQuiet P ops C K' l a
  | [], a, h => hk a h
  | o :: l, a, h => by
    unfold wpQuiet at h ⊢
    split
    · rename_i hw
      rw [if_pos hw] at h
      obtain ⟨v, h1, h2⟩ := h
      exact ⟨v, h1, wpQuiet_mono' hk l _ h2⟩
    · rename_i hw
      rw [if_neg hw] at h
      exact wpQuiet_mono' hk l _ h

theorem q_move (hx : ev f x = v) (hb : Nat.blt d n = true) (h : QL P n ops Cq rest Kq (upd f d (v))) : QL P n ops Cq (⟨some d, .move x, ty, pos, aft, none⟩ :: rest) Kq f :=
  q_val rfl rfl hb (fun w hp => by simp [execOp, hx, go_sem]) h
theorem q_assign (hx : ev f x = v) (hb : Nat.blt d n = true) (h : QL P n ops Cq rest Kq (upd f d (v))) : QL P n ops Cq (⟨some d, .assign x, ty, pos, aft, none⟩ :: rest) Kq f :=
  q_val rfl rfl hb (fun w hp => by simp [execOp, hx, go_sem]) h
theorem q_move_i {k : IntKind} {a : Int} (hx : ev f x = .int k a) (hb : Nat.blt d n = true) (h : QL P n ops Cq rest Kq (upd f d (.int k a))) : QL P n ops Cq (⟨some d, .move x, ty, pos, aft, none⟩ :: rest) Kq f := q_move hx hb h
theorem q_move_b {b : Bool} (hx : ev f x = .bool b) (hb : Nat.blt d n = true) (h : QL P n ops Cq rest Kq (upd f d (.bool b))) : QL P n ops Cq (⟨some d, .move x, ty, pos, aft, none⟩ :: rest) Kq f := q_move hx hb h
theorem q_move_s {s : ByteArray} (hx : ev f x = .string s) (hb : Nat.blt d n = true) (h : QL P n ops Cq rest Kq (upd f d (.string s))) : QL P n ops Cq (⟨some d, .move x, ty, pos, aft, none⟩ :: rest) Kq f := q_move hx hb h
theorem q_move_p {p : Option Addr} (hx : ev f x = .pointer p) (hb : Nat.blt d n = true) (h : QL P n ops Cq rest Kq (upd f d (.pointer p))) : QL P n ops Cq (⟨some d, .move x, ty, pos, aft, none⟩ :: rest) Kq f := q_move hx hb h
theorem q_move_sl {p : Option Addr} {m c : Nat} (hx : ev f x = .slice p m c) (hb : Nat.blt d n = true) (h : QL P n ops Cq rest Kq (upd f d (.slice p m c))) : QL P n ops Cq (⟨some d, .move x, ty, pos, aft, none⟩ :: rest) Kq f := q_move hx hb h
theorem q_move_ag {cs : Array Value} (hx : ev f x = .agg cs) (hb : Nat.blt d n = true) (h : QL P n ops Cq rest Kq (upd f d (.agg cs))) : QL P n ops Cq (⟨some d, .move x, ty, pos, aft, none⟩ :: rest) Kq f := q_move hx hb h
theorem q_move_tu {cs : Array Value} (hx : ev f x = .tuple cs) (hb : Nat.blt d n = true) (h : QL P n ops Cq rest Kq (upd f d (.tuple cs))) : QL P n ops Cq (⟨some d, .move x, ty, pos, aft, none⟩ :: rest) Kq f := q_move hx hb h
theorem q_move_ni  (hx : ev f x = .nilIface) (hb : Nat.blt d n = true) (h : QL P n ops Cq rest Kq (upd f d (.nilIface))) : QL P n ops Cq (⟨some d, .move x, ty, pos, aft, none⟩ :: rest) Kq f := q_move hx hb h
theorem q_move_if {tt : TypeId} (hx : ev f x = .iface tt v) (hb : Nat.blt d n = true) (h : QL P n ops Cq rest Kq (upd f d (.iface tt v))) : QL P n ops Cq (⟨some d, .move x, ty, pos, aft, none⟩ :: rest) Kq f := q_move hx hb h
theorem q_move_nf  (hx : ev f x = .nilFunc) (hb : Nat.blt d n = true) (h : QL P n ops Cq rest Kq (upd f d (.nilFunc))) : QL P n ops Cq (⟨some d, .move x, ty, pos, aft, none⟩ :: rest) Kq f := q_move hx hb h
theorem q_move_fn {fn : Fn} {c1 c2 : Array Value} (hx : ev f x = .func fn c1 c2) (hb : Nat.blt d n = true) (h : QL P n ops Cq rest Kq (upd f d (.func fn c1 c2))) : QL P n ops Cq (⟨some d, .move x, ty, pos, aft, none⟩ :: rest) Kq f := q_move hx hb h
theorem q_move_mp {r : Option Nat} (hx : ev f x = .map r) (hb : Nat.blt d n = true) (h : QL P n ops Cq rest Kq (upd f d (.map r))) : QL P n ops Cq (⟨some d, .move x, ty, pos, aft, none⟩ :: rest) Kq f := q_move hx hb h
theorem q_assign_i {k : IntKind} {a : Int} (hx : ev f x = .int k a) (hb : Nat.blt d n = true) (h : QL P n ops Cq rest Kq (upd f d (.int k a))) : QL P n ops Cq (⟨some d, .assign x, ty, pos, aft, none⟩ :: rest) Kq f := q_assign hx hb h
theorem q_assign_b {b : Bool} (hx : ev f x = .bool b) (hb : Nat.blt d n = true) (h : QL P n ops Cq rest Kq (upd f d (.bool b))) : QL P n ops Cq (⟨some d, .assign x, ty, pos, aft, none⟩ :: rest) Kq f := q_assign hx hb h
theorem q_assign_s {s : ByteArray} (hx : ev f x = .string s) (hb : Nat.blt d n = true) (h : QL P n ops Cq rest Kq (upd f d (.string s))) : QL P n ops Cq (⟨some d, .assign x, ty, pos, aft, none⟩ :: rest) Kq f := q_assign hx hb h
theorem q_assign_p {p : Option Addr} (hx : ev f x = .pointer p) (hb : Nat.blt d n = true) (h : QL P n ops Cq rest Kq (upd f d (.pointer p))) : QL P n ops Cq (⟨some d, .assign x, ty, pos, aft, none⟩ :: rest) Kq f := q_assign hx hb h
theorem q_assign_sl {p : Option Addr} {m c : Nat} (hx : ev f x = .slice p m c) (hb : Nat.blt d n = true) (h : QL P n ops Cq rest Kq (upd f d (.slice p m c))) : QL P n ops Cq (⟨some d, .assign x, ty, pos, aft, none⟩ :: rest) Kq f := q_assign hx hb h
theorem q_assign_ag {cs : Array Value} (hx : ev f x = .agg cs) (hb : Nat.blt d n = true) (h : QL P n ops Cq rest Kq (upd f d (.agg cs))) : QL P n ops Cq (⟨some d, .assign x, ty, pos, aft, none⟩ :: rest) Kq f := q_assign hx hb h
theorem q_assign_tu {cs : Array Value} (hx : ev f x = .tuple cs) (hb : Nat.blt d n = true) (h : QL P n ops Cq rest Kq (upd f d (.tuple cs))) : QL P n ops Cq (⟨some d, .assign x, ty, pos, aft, none⟩ :: rest) Kq f := q_assign hx hb h
theorem q_assign_ni  (hx : ev f x = .nilIface) (hb : Nat.blt d n = true) (h : QL P n ops Cq rest Kq (upd f d (.nilIface))) : QL P n ops Cq (⟨some d, .assign x, ty, pos, aft, none⟩ :: rest) Kq f := q_assign hx hb h
theorem q_assign_if {tt : TypeId} (hx : ev f x = .iface tt v) (hb : Nat.blt d n = true) (h : QL P n ops Cq rest Kq (upd f d (.iface tt v))) : QL P n ops Cq (⟨some d, .assign x, ty, pos, aft, none⟩ :: rest) Kq f := q_assign hx hb h
theorem q_assign_nf  (hx : ev f x = .nilFunc) (hb : Nat.blt d n = true) (h : QL P n ops Cq rest Kq (upd f d (.nilFunc))) : QL P n ops Cq (⟨some d, .assign x, ty, pos, aft, none⟩ :: rest) Kq f := q_assign hx hb h
theorem q_assign_fn {fn : Fn} {c1 c2 : Array Value} (hx : ev f x = .func fn c1 c2) (hb : Nat.blt d n = true) (h : QL P n ops Cq rest Kq (upd f d (.func fn c1 c2))) : QL P n ops Cq (⟨some d, .assign x, ty, pos, aft, none⟩ :: rest) Kq f := q_assign hx hb h
theorem q_assign_mp {r : Option Nat} (hx : ev f x = .map r) (hb : Nat.blt d n = true) (h : QL P n ops Cq rest Kq (upd f d (.map r))) : QL P n ops Cq (⟨some d, .assign x, ty, pos, aft, none⟩ :: rest) Kq f := q_assign hx hb h
theorem q_pick_t (hz : ev f z = .bool true) (hx : ev f x = v) (hb : Nat.blt d n = true) (h : QL P n ops Cq rest Kq (upd f d (v))) : QL P n ops Cq (⟨some d, .pick z x y, ty, pos, aft, none⟩ :: rest) Kq f :=
  q_val rfl rfl hb (fun w hp => by simp [execOp, hz, hx, asBool, go_sem]) h
theorem q_pick_f (hz : ev f z = .bool false) (hy : ev f y = v) (hb : Nat.blt d n = true) (h : QL P n ops Cq rest Kq (upd f d (v))) : QL P n ops Cq (⟨some d, .pick z x y, ty, pos, aft, none⟩ :: rest) Kq f :=
  q_val rfl rfl hb (fun w hp => by simp [execOp, hz, hy, asBool, go_sem]) h
theorem q_pick_tb {b : Bool} (hz : ev f z = .bool true) (hx : ev f x = .bool b) (hb : Nat.blt d n = true) (h : QL P n ops Cq rest Kq (upd f d (.bool b))) : QL P n ops Cq (⟨some d, .pick z x y, ty, pos, aft, none⟩ :: rest) Kq f := q_pick_t hz hx hb h
theorem q_pick_fb {b : Bool} (hz : ev f z = .bool false) (hy : ev f y = .bool b) (hb : Nat.blt d n = true) (h : QL P n ops Cq rest Kq (upd f d (.bool b))) : QL P n ops Cq (⟨some d, .pick z x y, ty, pos, aft, none⟩ :: rest) Kq f := q_pick_f hz hy hb h
theorem q_pick_ti {k : IntKind} {a : Int} (hz : ev f z = .bool true) (hx : ev f x = .int k a) (hb : Nat.blt d n = true) (h : QL P n ops Cq rest Kq (upd f d (.int k a))) : QL P n ops Cq (⟨some d, .pick z x y, ty, pos, aft, none⟩ :: rest) Kq f := q_pick_t hz hx hb h
theorem q_pick_fi {k : IntKind} {a : Int} (hz : ev f z = .bool false) (hy : ev f y = .int k a) (hb : Nat.blt d n = true) (h : QL P n ops Cq rest Kq (upd f d (.int k a))) : QL P n ops Cq (⟨some d, .pick z x y, ty, pos, aft, none⟩ :: rest) Kq f := q_pick_f hz hy hb h
theorem q_pick_ts {s : ByteArray} (hz : ev f z = .bool true) (hx : ev f x = .string s) (hb : Nat.blt d n = true) (h : QL P n ops Cq rest Kq (upd f d (.string s))) : QL P n ops Cq (⟨some d, .pick z x y, ty, pos, aft, none⟩ :: rest) Kq f := q_pick_t hz hx hb h
theorem q_pick_fs {s : ByteArray} (hz : ev f z = .bool false) (hy : ev f y = .string s) (hb : Nat.blt d n = true) (h : QL P n ops Cq rest Kq (upd f d (.string s))) : QL P n ops Cq (⟨some d, .pick z x y, ty, pos, aft, none⟩ :: rest) Kq f := q_pick_f hz hy hb h
theorem q_extract {i : Nat} {vs : Array Value} (hx : ev f x = .tuple vs) (hv : vs[i]? = some v) (hb : Nat.blt d n = true) (h : QL P n ops Cq rest Kq (upd f d v)) : QL P n ops Cq (⟨some d, .extract x i, ty, pos, aft, none⟩ :: rest) Kq f :=
  q_val rfl rfl hb (fun w hp => by simp [execOp, Instr.extract, hx, hv, go_sem]) h
theorem q_add {k : IntKind} {a b : Int} (hx : ev f x = .int k a) (hy : ev f y = .int k b)  (hb : Nat.blt d n = true) (h : QL P n ops Cq rest Kq (upd f d (.int k (k.wrap (a + b))))) : QL P n ops Cq (⟨some d, .binOp .add t x y ty', ty, pos, aft, none⟩ :: rest) Kq f :=
  q_val rfl rfl hb (fun w hp => by simp [execOp, hx, hy, go_sem]) h
theorem q_sub {k : IntKind} {a b : Int} (hx : ev f x = .int k a) (hy : ev f y = .int k b)  (hb : Nat.blt d n = true) (h : QL P n ops Cq rest Kq (upd f d (.int k (k.wrap (a - b))))) : QL P n ops Cq (⟨some d, .binOp .sub t x y ty', ty, pos, aft, none⟩ :: rest) Kq f :=
  q_val rfl rfl hb (fun w hp => by simp [execOp, hx, hy, go_sem]) h
theorem q_mul {k : IntKind} {a b : Int} (hx : ev f x = .int k a) (hy : ev f y = .int k b)  (hb : Nat.blt d n = true) (h : QL P n ops Cq rest Kq (upd f d (.int k (k.wrap (a * b))))) : QL P n ops Cq (⟨some d, .binOp .mul t x y ty', ty, pos, aft, none⟩ :: rest) Kq f :=
  q_val rfl rfl hb (fun w hp => by simp [execOp, hx, hy, go_sem]) h
theorem q_quo {k : IntKind} {a b : Int} (hx : ev f x = .int k a) (hy : ev f y = .int k b) (h0 : b ≠ 0) (hb : Nat.blt d n = true) (h : QL P n ops Cq rest Kq (upd f d (.int k (k.wrap (a.tdiv b))))) : QL P n ops Cq (⟨some d, .binOp .quo t x y ty', ty, pos, aft, none⟩ :: rest) Kq f :=
  q_val rfl rfl hb (fun w hp => by simp [execOp, hx, hy, h0, go_sem]) h
theorem q_rem {k : IntKind} {a b : Int} (hx : ev f x = .int k a) (hy : ev f y = .int k b) (h0 : b ≠ 0) (hb : Nat.blt d n = true) (h : QL P n ops Cq rest Kq (upd f d (.int k (a.tmod b)))) : QL P n ops Cq (⟨some d, .binOp .rem t x y ty', ty, pos, aft, none⟩ :: rest) Kq f :=
  q_val rfl rfl hb (fun w hp => by simp [execOp, hx, hy, h0, go_sem]) h
theorem q_and {k : IntKind} {a b : Int} (hx : ev f x = .int k a) (hy : ev f y = .int k b)  (hb : Nat.blt d n = true) (h : QL P n ops Cq rest Kq (upd f d (.int k (bits .and k a b)))) : QL P n ops Cq (⟨some d, .binOp .and t x y ty', ty, pos, aft, none⟩ :: rest) Kq f :=
  q_val rfl rfl hb (fun w hp => by simp [execOp, hx, hy, go_sem]) h
theorem q_or {k : IntKind} {a b : Int} (hx : ev f x = .int k a) (hy : ev f y = .int k b)  (hb : Nat.blt d n = true) (h : QL P n ops Cq rest Kq (upd f d (.int k (bits .or k a b)))) : QL P n ops Cq (⟨some d, .binOp .or t x y ty', ty, pos, aft, none⟩ :: rest) Kq f :=
  q_val rfl rfl hb (fun w hp => by simp [execOp, hx, hy, go_sem]) h
theorem q_xor {k : IntKind} {a b : Int} (hx : ev f x = .int k a) (hy : ev f y = .int k b)  (hb : Nat.blt d n = true) (h : QL P n ops Cq rest Kq (upd f d (.int k (bits .xor k a b)))) : QL P n ops Cq (⟨some d, .binOp .xor t x y ty', ty, pos, aft, none⟩ :: rest) Kq f :=
  q_val rfl rfl hb (fun w hp => by simp [execOp, hx, hy, go_sem]) h
theorem q_eql {k : IntKind} {a b : Int} (hx : ev f x = .int k a) (hy : ev f y = .int k b)  (hb : Nat.blt d n = true) (h : QL P n ops Cq rest Kq (upd f d (.bool (decide (a = b))))) : QL P n ops Cq (⟨some d, .binOp .eql t x y ty', ty, pos, aft, none⟩ :: rest) Kq f :=
  q_val rfl rfl hb (fun w hp => by by_cases e : a = b <;> simp [execOp, hx, hy, e, go_sem]) h
theorem q_neq {k : IntKind} {a b : Int} (hx : ev f x = .int k a) (hy : ev f y = .int k b)  (hb : Nat.blt d n = true) (h : QL P n ops Cq rest Kq (upd f d (.bool (decide (a ≠ b))))) : QL P n ops Cq (⟨some d, .binOp .neq t x y ty', ty, pos, aft, none⟩ :: rest) Kq f :=
  q_val rfl rfl hb (fun w hp => by by_cases e : a = b <;> simp [execOp, hx, hy, e, go_sem]) h
theorem q_lss {k : IntKind} {a b : Int} (hx : ev f x = .int k a) (hy : ev f y = .int k b)  (hb : Nat.blt d n = true) (h : QL P n ops Cq rest Kq (upd f d (.bool (decide (a < b))))) : QL P n ops Cq (⟨some d, .binOp .lss t x y ty', ty, pos, aft, none⟩ :: rest) Kq f :=
  q_val rfl rfl hb (fun w hp => by simp [execOp, hx, hy, go_sem]) h
theorem q_leq {k : IntKind} {a b : Int} (hx : ev f x = .int k a) (hy : ev f y = .int k b)  (hb : Nat.blt d n = true) (h : QL P n ops Cq rest Kq (upd f d (.bool (decide (a ≤ b))))) : QL P n ops Cq (⟨some d, .binOp .leq t x y ty', ty, pos, aft, none⟩ :: rest) Kq f :=
  q_val rfl rfl hb (fun w hp => by simp [execOp, hx, hy, go_sem]) h
theorem q_gtr {k : IntKind} {a b : Int} (hx : ev f x = .int k a) (hy : ev f y = .int k b)  (hb : Nat.blt d n = true) (h : QL P n ops Cq rest Kq (upd f d (.bool (decide (b < a))))) : QL P n ops Cq (⟨some d, .binOp .gtr t x y ty', ty, pos, aft, none⟩ :: rest) Kq f :=
  q_val rfl rfl hb (fun w hp => by simp [execOp, hx, hy, go_sem]) h
theorem q_geq {k : IntKind} {a b : Int} (hx : ev f x = .int k a) (hy : ev f y = .int k b)  (hb : Nat.blt d n = true) (h : QL P n ops Cq rest Kq (upd f d (.bool (decide (b ≤ a))))) : QL P n ops Cq (⟨some d, .binOp .geq t x y ty', ty, pos, aft, none⟩ :: rest) Kq f :=
  q_val rfl rfl hb (fun w hp => by simp [execOp, hx, hy, go_sem]) h
theorem q_not {b : Bool} (hx : ev f x = .bool b) (hb : Nat.blt d n = true) (h : QL P n ops Cq rest Kq (upd f d (.bool !b))) : QL P n ops Cq (⟨some d, .unOp .not t x, ty, pos, aft, none⟩ :: rest) Kq f :=
  q_val rfl rfl hb (fun w hp => by simp [execOp, hx, go_sem]) h
theorem q_not_t (hx : ev f x = .bool true) (hb : Nat.blt d n = true) (h : QL P n ops Cq rest Kq (upd f d (.bool false))) : QL P n ops Cq (⟨some d, .unOp .not t x, ty, pos, aft, none⟩ :: rest) Kq f := q_not hx hb h
theorem q_not_f (hx : ev f x = .bool false) (hb : Nat.blt d n = true) (h : QL P n ops Cq rest Kq (upd f d (.bool true))) : QL P n ops Cq (⟨some d, .unOp .not t x, ty, pos, aft, none⟩ :: rest) Kq f := q_not hx hb h
theorem q_not_d {p : Prop} {dp : Decidable p} (hx : ev f x = .bool (decide p)) (hb : Nat.blt d n = true) (h : QL P n ops Cq rest Kq (upd f d (.bool (decide (¬ p))))) : QL P n ops Cq (⟨some d, .unOp .not t x, ty, pos, aft, none⟩ :: rest) Kq f := q_not hx hb (by simpa using h)
theorem q_conv {k k' : IntKind} {a : Int} {t' : TypeId} [hs : IntT P t k'] [hd : IntT P t' k] {k2 : IntKind} (hx : ev f x = .int k2 a) (hb : Nat.blt d n = true) (h : QL P n ops Cq rest Kq (upd f d (.int k (k.wrap a)))) : QL P n ops Cq (⟨some d, .convert t t' x, ty, pos, aft, none⟩ :: rest) Kq f :=
  q_val rfl rfl hb (fun w hp => by
    have h1 : P.underlying t = some (.int k') := hs.out
    have h2 : P.underlying t' = some (.int k) := hd.out
    simp [execOp, hx, go_sem, h1, h2]) h
theorem q_load1 {w0 : World} {fp : List Nat} {L : Mem} {g k i : Nat} {tb : TypeId} {cs : List Value} (hs : Sc P t) (hx : ev f x = .pointer (some ⟨g, k, none⟩)) (hi : L[i]? = some (g, C tb cs)) (hv : cs[k]? = some v) (hb : Nat.blt d n = true) (h : QL P n ops (fun w => Hp w0 fp w L) rest Kq (upd f d v)) : QL P n ops (fun w => Hp w0 fp w L) (⟨some d, .load t x, ty, pos, aft, none⟩ :: rest) Kq f :=
  q_val rfl rfl hb (fun w hp => by
    have hc : w.cell? ⟨g, k, none⟩ = some v := (hp.cell hi k).trans hv
    simp [execOp, Instr.loadAt, Instr.sureAddr, loadVar, hx, run_isAgg_no, hc, go_sem]) h
theorem q_load_old {w0 : World} {L : Mem} {a : Addr} (hs : Sc P t) (hx : ev f x = .pointer (some a)) (hc : w0.cell? a = some v) (hb : Nat.blt d n = true) (h : QL P n ops (fun w => Hp w0 [] w L) rest Kq (upd f d v)) : QL P n ops (fun w => Hp w0 [] w L) (⟨some d, .load t x, ty, pos, aft, none⟩ :: rest) Kq f :=
  q_val rfl rfl hb (fun w hp => by
    have hc := hp.oldcell hc
    simp [execOp, Instr.loadAt, Instr.sureAddr, loadVar, hx, run_isAgg_no, hc, go_sem]) h
theorem q_loadA {m : Nat} {w0 : World} {fp : List Nat} {L : Mem} {g k i : Nat} {tb : TypeId} {cs : List Value} (hs : Ag P t) (hm : Sz P t m) (hx : ev f x = .pointer (some ⟨g, k, none⟩)) (hi : L[i]? = some (g, C tb cs)) (hl : Nat.ble (k + m) cs.length = true) (hb : Nat.blt d n = true) (h : QL P n ops (fun w => Hp w0 fp w L) rest Kq (upd f d (.agg ((cs.drop k).take m).toArray))) : QL P n ops (fun w => Hp w0 fp w L) (⟨some d, .load t x, ty, pos, aft, none⟩ :: rest) Kq f :=
  q_val rfl rfl hb (fun w hp => by
    have hlen : k + m ≤ cs.length := by simpa using hl
    have hlc : (loadCells ⟨g, k, none⟩ ((cs.drop k).take m).length).run P w = .ok ((cs.drop k).take m).toArray w :=
      run_loadCells_list (P := P) w ⟨g, k, none⟩ _ (fun j v hv => by
        have hj : j < m := by
          have := (List.getElem?_eq_some_iff.1 hv).1
          simp at this; omega
        have hadd : (⟨g, k, none⟩ : Addr).add j = ⟨g, k + j, none⟩ := by unfold Addr.add; split <;> simp_all
        rw [hadd, hp.cell hi (k + j), ← hv, List.getElem?_take, if_pos hj, List.getElem?_drop])
    have e : ((cs.drop k).take m).length = m := by simp; omega
    rw [e] at hlc
    have hlv : (loadVar t ⟨g, k, none⟩).run P w = .ok (.agg ((cs.drop k).take m).toArray) w := by
      unfold loadVar
      simp [run_isAgg_yes, run_sizeOf, hlc]
    simp [execOp, Instr.loadAt, Instr.sureAddr, hx, hlv]) h
theorem q_loadW {m : Nat} {w0 : World} {fp : List Nat} {L : Mem} {g i : Nat} {tb : TypeId} {cs : List Value} (hs : Ag P t) (hm : Sz P t m) (hx : ev f x = .pointer (some ⟨g, 0, none⟩)) (hi : L[i]? = some (g, C tb cs)) (hl : cs.length = m) (hb : Nat.blt d n = true) (h : QL P n ops (fun w => Hp w0 fp w L) rest Kq (upd f d (.agg cs.toArray))) : QL P n ops (fun w => Hp w0 fp w L) (⟨some d, .load t x, ty, pos, aft, none⟩ :: rest) Kq f := by
  have e : (cs.drop 0).take m = cs := by simp [← hl]
  exact q_loadA hs hm hx hi (by simp [hl]) hb (by rw [e]; exact h)
theorem q_guard_y {j : Nat} {want : Bool} {dst : Option Tmp} {op : Op} {s : Tmp} (hj : (ops[j]?).bind (·.dst) = some s) (hs : f s = .bool want) (hd : dst.isSome = true) (h : QL P n ops Cq (⟨dst, op, ty, pos, aft, none⟩ :: rest) Kq f) : QL P n ops Cq (⟨dst, op, ty, pos, aft, some (j, want)⟩ :: rest) Kq f :=
  q_guard rfl hj hs (fun _ => h) (fun e => absurd rfl e) hd
theorem q_guard_n {j : Nat} {want b : Bool} {op : Op} {s : Tmp} (hj : (ops[j]?).bind (·.dst) = some s) (hs : f s = .bool b) (hne : Bool.xor b want = true) (hb : Nat.blt d n = true) (h : QL P n ops Cq rest Kq (upd f d undef)) : QL P n ops Cq (⟨some d, op, ty, pos, aft, some (j, want)⟩ :: rest) Kq f :=
  q_guard rfl hj hs (fun e => by subst e; simp at hne) (fun _ d' hd => by injection hd with hd; subst hd; exact ⟨hb, h⟩) rfl
theorem q_guard_bt {j : Nat} {b : Bool} {op : Op} {s : Tmp} (hj : (ops[j]?).bind (·.dst) = some s) (hs : f s = .bool b) (hb : Nat.blt d n = true) (ht : b = true → QL P n ops Cq (⟨some d, op, ty, pos, aft, none⟩ :: rest) Kq (upd f s (.bool true))) (hf : b = false → QL P n ops Cq rest Kq (upd (upd f s (.bool false)) d undef)) : QL P n ops Cq (⟨some d, op, ty, pos, aft, some (j, true)⟩ :: rest) Kq f := by
  cases b
  · have := hf rfl; rw [← hs, upd_self] at this; exact q_guard_n hj hs rfl hb this
  · have := ht rfl; rw [← hs, upd_self] at this; exact q_guard_y hj hs rfl this
theorem q_guard_bf {j : Nat} {b : Bool} {op : Op} {s : Tmp} (hj : (ops[j]?).bind (·.dst) = some s) (hs : f s = .bool b) (hb : Nat.blt d n = true) (hf : b = false → QL P n ops Cq (⟨some d, op, ty, pos, aft, none⟩ :: rest) Kq (upd f s (.bool false))) (ht : b = true → QL P n ops Cq rest Kq (upd (upd f s (.bool true)) d undef)) : QL P n ops Cq (⟨some d, op, ty, pos, aft, some (j, false)⟩ :: rest) Kq f := by
  cases b
  · have := hf rfl; rw [← hs, upd_self] at this; exact q_guard_y hj hs rfl this
  · have := ht rfl; rw [← hs, upd_self] at this; exact q_guard_n hj hs rfl hb this
theorem q_guard_dt {j : Nat} {p : Prop} {dp : Decidable p} {op : Op} {s : Tmp} (hj : (ops[j]?).bind (·.dst) = some s) (hs : f s = .bool (decide p)) (hb : Nat.blt d n = true) (ht : p → QL P n ops Cq (⟨some d, op, ty, pos, aft, none⟩ :: rest) Kq (upd f s (.bool true))) (hf : ¬ p → QL P n ops Cq rest Kq (upd (upd f s (.bool false)) d undef)) : QL P n ops Cq (⟨some d, op, ty, pos, aft, some (j, true)⟩ :: rest) Kq f :=
  q_guard_bt hj hs hb (fun e => ht (of_decide_eq_true e)) (fun e => hf (of_decide_eq_false e))
theorem q_guard_df {j : Nat} {p : Prop} {dp : Decidable p} {op : Op} {s : Tmp} (hj : (ops[j]?).bind (·.dst) = some s) (hs : f s = .bool (decide p)) (hb : Nat.blt d n = true) (hf : ¬ p → QL P n ops Cq (⟨some d, op, ty, pos, aft, none⟩ :: rest) Kq (upd f s (.bool false))) (ht : p → QL P n ops Cq rest Kq (upd (upd f s (.bool true)) d undef)) : QL P n ops Cq (⟨some d, op, ty, pos, aft, some (j, false)⟩ :: rest) Kq f :=
  q_guard_bf hj hs hb (fun e => hf (of_decide_eq_false e)) (fun e => ht (of_decide_eq_true e))

theorem q_fieldAddr {s fld off g k : Nat} [hf : Fo P s fld off] (hx : ev f x = .pointer (some ⟨g, k, none⟩)) (hb : Nat.blt d n = true) (h : QL P n ops Cq rest Kq (upd f d (.pointer (some ⟨g, k + off, none⟩)))) : QL P n ops Cq (⟨some d, .fieldAddr s x fld, ty, pos, aft, none⟩ :: rest) Kq f :=
  q_val rfl rfl hb (fun w hp => by simp [execOp, hx, run_fo]) h
theorem q_build {z : List Value} {ps : List (Nat × Nat)} [hz : Zr P t z] [hps : Pl P t ps] {pl : List (Nat × Operand)} {cs : List Value} (hc : fillL ps z (pl.map fun p => (p.1, ev f p.2)) = some cs) (hb : Nat.blt d n = true) (h : QL P n ops Cq rest Kq (upd f d (.agg cs.toArray))) : QL P n ops Cq (⟨some d, .build t pl.toArray, ty, pos, aft, none⟩ :: rest) Kq f :=
  q_val rfl rfl hb (fun w hp => by
    have hbuilt : P.built t (pl.map fun p => (p.1, ev f p.2)) = some cs.toArray := by
      have h1 := hz.out
      have h2 := hps.out
      unfold places at h2
      unfold Program.built
      cases hi : P.info? t with
      | none => rw [hi] at h1; cases h1
      | some i =>
        rw [hi] at h1
        simp only [Option.bind_some] at h1
        cases hzz : i.zero with
        | none => rw [hzz] at h1; cases h1
        | some v =>
          rw [hzz] at h1
          simp only [Option.map_some, Option.some.injEq] at h1
          cases hu : P.underlying t with
          | none => rw [hu] at h2; cases h2
          | some dd =>
            rw [hu] at h2
            cases dd with
            | struct fs =>
              simp only at h2 ⊢
              rw [hzz, h2]
              simp only
              have := fill_of ps _ z cs hc
              rw [← this, ← h1]
            | _ => cases h2
    have hr := run_build (P := P) w t (pl.toArray.map fun (i, x) => (i, ev f x)) cs.toArray (by simpa using hbuilt)
    simp only [execOp]
    rw [Sem.run_bind, hr]
    rfl) h

theorem q_build0 {z : List Value} {ps : List (Nat × Nat)} [hz : Zr P t z] [hps : Pl P t ps] {pl : List (Nat × Operand)}  (hc : fillL ps z (pl.map fun p => (p.1, ev f p.2)) = some []) (hb : Nat.blt d n = true) (h : QL P n ops Cq rest Kq (upd f d (.agg #[]))) : QL P n ops Cq (⟨some d, .build t pl.toArray, ty, pos, aft, none⟩ :: rest) Kq f := q_build hc hb h
theorem q_build1 {z : List Value} {ps : List (Nat × Nat)} [hz : Zr P t z] [hps : Pl P t ps] {pl : List (Nat × Operand)} {v0 : Value} (hc : fillL ps z (pl.map fun p => (p.1, ev f p.2)) = some [v0]) (hb : Nat.blt d n = true) (h : QL P n ops Cq rest Kq (upd f d (.agg #[v0]))) : QL P n ops Cq (⟨some d, .build t pl.toArray, ty, pos, aft, none⟩ :: rest) Kq f := q_build hc hb h
theorem q_build2 {z : List Value} {ps : List (Nat × Nat)} [hz : Zr P t z] [hps : Pl P t ps] {pl : List (Nat × Operand)} {v0 v1 : Value} (hc : fillL ps z (pl.map fun p => (p.1, ev f p.2)) = some [v0, v1]) (hb : Nat.blt d n = true) (h : QL P n ops Cq rest Kq (upd f d (.agg #[v0, v1]))) : QL P n ops Cq (⟨some d, .build t pl.toArray, ty, pos, aft, none⟩ :: rest) Kq f := q_build hc hb h
theorem q_build3 {z : List Value} {ps : List (Nat × Nat)} [hz : Zr P t z] [hps : Pl P t ps] {pl : List (Nat × Operand)} {v0 v1 v2 : Value} (hc : fillL ps z (pl.map fun p => (p.1, ev f p.2)) = some [v0, v1, v2]) (hb : Nat.blt d n = true) (h : QL P n ops Cq rest Kq (upd f d (.agg #[v0, v1, v2]))) : QL P n ops Cq (⟨some d, .build t pl.toArray, ty, pos, aft, none⟩ :: rest) Kq f := q_build hc hb h
theorem q_build4 {z : List Value} {ps : List (Nat × Nat)} [hz : Zr P t z] [hps : Pl P t ps] {pl : List (Nat × Operand)} {v0 v1 v2 v3 : Value} (hc : fillL ps z (pl.map fun p => (p.1, ev f p.2)) = some [v0, v1, v2, v3]) (hb : Nat.blt d n = true) (h : QL P n ops Cq rest Kq (upd f d (.agg #[v0, v1, v2, v3]))) : QL P n ops Cq (⟨some d, .build t pl.toArray, ty, pos, aft, none⟩ :: rest) Kq f := q_build hc hb h
theorem q_build5 {z : List Value} {ps : List (Nat × Nat)} [hz : Zr P t z] [hps : Pl P t ps] {pl : List (Nat × Operand)} {v0 v1 v2 v3 v4 : Value} (hc : fillL ps z (pl.map fun p => (p.1, ev f p.2)) = some [v0, v1, v2, v3, v4]) (hb : Nat.blt d n = true) (h : QL P n ops Cq rest Kq (upd f d (.agg #[v0, v1, v2, v3, v4]))) : QL P n ops Cq (⟨some d, .build t pl.toArray, ty, pos, aft, none⟩ :: rest) Kq f := q_build hc hb h
theorem q_build6 {z : List Value} {ps : List (Nat × Nat)} [hz : Zr P t z] [hps : Pl P t ps] {pl : List (Nat × Operand)} {v0 v1 v2 v3 v4 v5 : Value} (hc : fillL ps z (pl.map fun p => (p.1, ev f p.2)) = some [v0, v1, v2, v3, v4, v5]) (hb : Nat.blt d n = true) (h : QL P n ops Cq rest Kq (upd f d (.agg #[v0, v1, v2, v3, v4, v5]))) : QL P n ops Cq (⟨some d, .build t pl.toArray, ty, pos, aft, none⟩ :: rest) Kq f := q_build hc hb h
theorem q_build7 {z : List Value} {ps : List (Nat × Nat)} [hz : Zr P t z] [hps : Pl P t ps] {pl : List (Nat × Operand)} {v0 v1 v2 v3 v4 v5 v6 : Value} (hc : fillL ps z (pl.map fun p => (p.1, ev f p.2)) = some [v0, v1, v2, v3, v4, v5, v6]) (hb : Nat.blt d n = true) (h : QL P n ops Cq rest Kq (upd f d (.agg #[v0, v1, v2, v3, v4, v5, v6]))) : QL P n ops Cq (⟨some d, .build t pl.toArray, ty, pos, aft, none⟩ :: rest) Kq f := q_build hc hb h
theorem q_build8 {z : List Value} {ps : List (Nat × Nat)} [hz : Zr P t z] [hps : Pl P t ps] {pl : List (Nat × Operand)} {v0 v1 v2 v3 v4 v5 v6 v7 : Value} (hc : fillL ps z (pl.map fun p => (p.1, ev f p.2)) = some [v0, v1, v2, v3, v4, v5, v6, v7]) (hb : Nat.blt d n = true) (h : QL P n ops Cq rest Kq (upd f d (.agg #[v0, v1, v2, v3, v4, v5, v6, v7]))) : QL P n ops Cq (⟨some d, .build t pl.toArray, ty, pos, aft, none⟩ :: rest) Kq f := q_build hc hb h
theorem q_build9 {z : List Value} {ps : List (Nat × Nat)} [hz : Zr P t z] [hps : Pl P t ps] {pl : List (Nat × Operand)} {v0 v1 v2 v3 v4 v5 v6 v7 v8 : Value} (hc : fillL ps z (pl.map fun p => (p.1, ev f p.2)) = some [v0, v1, v2, v3, v4, v5, v6, v7, v8]) (hb : Nat.blt d n = true) (h : QL P n ops Cq rest Kq (upd f d (.agg #[v0, v1, v2, v3, v4, v5, v6, v7, v8]))) : QL P n ops Cq (⟨some d, .build t pl.toArray, ty, pos, aft, none⟩ :: rest) Kq f := q_build hc hb h
theorem q_build10 {z : List Value} {ps : List (Nat × Nat)} [hz : Zr P t z] [hps : Pl P t ps] {pl : List (Nat × Operand)} {v0 v1 v2 v3 v4 v5 v6 v7 v8 v9 : Value} (hc : fillL ps z (pl.map fun p => (p.1, ev f p.2)) = some [v0, v1, v2, v3, v4, v5, v6, v7, v8, v9]) (hb : Nat.blt d n = true) (h : QL P n ops Cq rest Kq (upd f d (.agg #[v0, v1, v2, v3, v4, v5, v6, v7, v8, v9]))) : QL P n ops Cq (⟨some d, .build t pl.toArray, ty, pos, aft, none⟩ :: rest) Kq f := q_build hc hb h
theorem q_build11 {z : List Value} {ps : List (Nat × Nat)} [hz : Zr P t z] [hps : Pl P t ps] {pl : List (Nat × Operand)} {v0 v1 v2 v3 v4 v5 v6 v7 v8 v9 v10 : Value} (hc : fillL ps z (pl.map fun p => (p.1, ev f p.2)) = some [v0, v1, v2, v3, v4, v5, v6, v7, v8, v9, v10]) (hb : Nat.blt d n = true) (h : QL P n ops Cq rest Kq (upd f d (.agg #[v0, v1, v2, v3, v4, v5, v6, v7, v8, v9, v10]))) : QL P n ops Cq (⟨some d, .build t pl.toArray, ty, pos, aft, none⟩ :: rest) Kq f := q_build hc hb h
theorem q_build12 {z : List Value} {ps : List (Nat × Nat)} [hz : Zr P t z] [hps : Pl P t ps] {pl : List (Nat × Operand)} {v0 v1 v2 v3 v4 v5 v6 v7 v8 v9 v10 v11 : Value} (hc : fillL ps z (pl.map fun p => (p.1, ev f p.2)) = some [v0, v1, v2, v3, v4, v5, v6, v7, v8, v9, v10, v11]) (hb : Nat.blt d n = true) (h : QL P n ops Cq rest Kq (upd f d (.agg #[v0, v1, v2, v3, v4, v5, v6, v7, v8, v9, v10, v11]))) : QL P n ops Cq (⟨some d, .build t pl.toArray, ty, pos, aft, none⟩ :: rest) Kq f := q_build hc hb h
theorem q_min {k : IntKind} {a b : Int} {ats : Array TypeId} (hx : ev f x = .int k a) (hy : ev f y = .int k b) (hb : Nat.blt d n = true) (h : QL P n ops Cq rest Kq (upd f d (.int k (if b < a then b else a)))) : QL P n ops Cq (⟨some d, .call { callee := .builtin .min, args := #[x, y], argTypes := ats }, ty, pos, aft, none⟩ :: rest) Kq f :=
  q_val rfl rfl hb (fun w hp => by simp [execOp, resolve, invoke, hx, hy, go_sem]) h
theorem q_max {k : IntKind} {a b : Int} {ats : Array TypeId} (hx : ev f x = .int k a) (hy : ev f y = .int k b) (hb : Nat.blt d n = true) (h : QL P n ops Cq rest Kq (upd f d (.int k (if a < b then b else a)))) : QL P n ops Cq (⟨some d, .call { callee := .builtin .max, args := #[x, y], argTypes := ats }, ty, pos, aft, none⟩ :: rest) Kq f :=
  q_val rfl rfl hb (fun w hp => by simp [execOp, resolve, invoke, hx, hy, go_sem]) h
theorem q_eqs {xs ys : Array Value} {p : Prop} {dp : Decidable p} (he : EqF P t xs ys (decide p)) (hx : ev f x = .agg xs) (hy : ev f y = .agg ys) (hb : Nat.blt d n = true) (h : QL P n ops Cq rest Kq (upd f d (.bool (decide p)))) : QL P n ops Cq (⟨some d, .binOp .eql t x y ty', ty, pos, aft, none⟩ :: rest) Kq f :=
  q_val rfl rfl hb (fun w hp => by simp [execOp, hx, hy, (he.1 x y w).1, (he.2 w).1]) h
theorem q_nes {xs ys : Array Value} {p : Prop} {dp : Decidable p} (he : EqF P t xs ys (decide p)) (hx : ev f x = .agg xs) (hy : ev f y = .agg ys) (hb : Nat.blt d n = true) (h : QL P n ops Cq rest Kq (upd f d (.bool (decide (¬ p))))) : QL P n ops Cq (⟨some d, .binOp .neq t x y ty', ty, pos, aft, none⟩ :: rest) Kq f :=
  q_val rfl rfl hb (fun w hp => by simp [execOp, hx, hy, (he.1 x y w).2, (he.2 w).2]) h

theorem gq_move {dst : Option Tmp}  (h : QL P n ops Cq (⟨dst, .move x, ty, pos, aft, none⟩ :: rest) Kq f) : QL P n ops Cq (⟨dst, .move x, ty, pos, aft, none⟩ :: rest) Kq f := h
theorem gq_assign {dst : Option Tmp}  (h : QL P n ops Cq (⟨dst, .assign x, ty, pos, aft, none⟩ :: rest) Kq f) : QL P n ops Cq (⟨dst, .assign x, ty, pos, aft, none⟩ :: rest) Kq f := h
theorem gq_bin {dst : Option Tmp} {op : BinOp} (h : QL P n ops Cq (⟨dst, .binOp op t x y ty', ty, pos, aft, none⟩ :: rest) Kq f) : QL P n ops Cq (⟨dst, .binOp op t x y ty', ty, pos, aft, none⟩ :: rest) Kq f := h
theorem gq_load {dst : Option Tmp}  (h : QL P n ops Cq (⟨dst, .load t x, ty, pos, aft, none⟩ :: rest) Kq f) : QL P n ops Cq (⟨dst, .load t x, ty, pos, aft, none⟩ :: rest) Kq f := h
theorem gq_fa {dst : Option Tmp} {fld : Nat} (h : QL P n ops Cq (⟨dst, .fieldAddr t x fld, ty, pos, aft, none⟩ :: rest) Kq f) : QL P n ops Cq (⟨dst, .fieldAddr t x fld, ty, pos, aft, none⟩ :: rest) Kq f := h
theorem gq_pick {dst : Option Tmp}  (h : QL P n ops Cq (⟨dst, .pick z x y, ty, pos, aft, none⟩ :: rest) Kq f) : QL P n ops Cq (⟨dst, .pick z x y, ty, pos, aft, none⟩ :: rest) Kq f := h
theorem gq_un {dst : Option Tmp} {uo : UnOp} (h : QL P n ops Cq (⟨dst, .unOp uo t x, ty, pos, aft, none⟩ :: rest) Kq f) : QL P n ops Cq (⟨dst, .unOp uo t x, ty, pos, aft, none⟩ :: rest) Kq f := h
theorem gq_conv {dst : Option Tmp} {t' : TypeId} (h : QL P n ops Cq (⟨dst, .convert t t' x, ty, pos, aft, none⟩ :: rest) Kq f) : QL P n ops Cq (⟨dst, .convert t t' x, ty, pos, aft, none⟩ :: rest) Kq f := h
theorem gq_build {dst : Option Tmp} {ps : Array (Nat × Operand)} (h : QL P n ops Cq (⟨dst, .build t ps, ty, pos, aft, none⟩ :: rest) Kq f) : QL P n ops Cq (⟨dst, .build t ps, ty, pos, aft, none⟩ :: rest) Kq f := h
theorem gq_extract {dst : Option Tmp} {i : Nat} (h : QL P n ops Cq (⟨dst, .extract x i, ty, pos, aft, none⟩ :: rest) Kq f) : QL P n ops Cq (⟨dst, .extract x i, ty, pos, aft, none⟩ :: rest) Kq f := h
theorem gq_call {dst : Option Tmp} {cc : Call} (h : QL P n ops Cq (⟨dst, .call cc, ty, pos, aft, none⟩ :: rest) Kq f) : QL P n ops Cq (⟨dst, .call cc, ty, pos, aft, none⟩ :: rest) Kq f := h
theorem gq_ia {dst : Option Tmp}  (h : QL P n ops Cq (⟨dst, .indexAddr t x y, ty, pos, aft, none⟩ :: rest) Kq f) : QL P n ops Cq (⟨dst, .indexAddr t x y, ty, pos, aft, none⟩ :: rest) Kq f := h
theorem gq_ix {dst : Option Tmp}  (h : QL P n ops Cq (⟨dst, .index t x y, ty, pos, aft, none⟩ :: rest) Kq f) : QL P n ops Cq (⟨dst, .index t x y, ty, pos, aft, none⟩ :: rest) Kq f := h
theorem gq_slice {dst : Option Tmp} {lo hi mx : Option Operand} (h : QL P n ops Cq (⟨dst, .slice t x lo hi mx, ty, pos, aft, none⟩ :: rest) Kq f) : QL P n ops Cq (⟨dst, .slice t x lo hi mx, ty, pos, aft, none⟩ :: rest) Kq f := h
theorem gq_nil {dst : Option Tmp}  (h : QL P n ops Cq (⟨dst, .nilCheck x, ty, pos, aft, none⟩ :: rest) Kq f) : QL P n ops Cq (⟨dst, .nilCheck x, ty, pos, aft, none⟩ :: rest) Kq f := h
theorem gq_bs {dst : Option Tmp} {m : Nat} {ps : Array (Nat × Operand)} (h : QL P n ops Cq (⟨dst, .buildSlice t m ps, ty, pos, aft, none⟩ :: rest) Kq f) : QL P n ops Cq (⟨dst, .buildSlice t m ps, ty, pos, aft, none⟩ :: rest) Kq f := h
theorem gq_mk {dst : Option Tmp}  (h : QL P n ops Cq (⟨dst, .makeSlice t x y, ty, pos, aft, none⟩ :: rest) Kq f) : QL P n ops Cq (⟨dst, .makeSlice t x y, ty, pos, aft, none⟩ :: rest) Kq f := h
theorem gq_field {dst : Option Tmp} {m : Nat} (h : QL P n ops Cq (⟨dst, .field t x m, ty, pos, aft, none⟩ :: rest) Kq f) : QL P n ops Cq (⟨dst, .field t x m, ty, pos, aft, none⟩ :: rest) Kq f := h
theorem gq_guard {dst : Option Tmp} {op : Op} {gg : Nat × Bool} (h : QL P n ops Cq (⟨dst, op, ty, pos, aft, some gg⟩ :: rest) Kq f) : QL P n ops Cq (⟨dst, op, ty, pos, aft, some gg⟩ :: rest) Kq f := h
theorem q_add_fit {a b : Int} (hx : ev f x = .int .i64 a) (hy : ev f y = .int .i64 b) (hb : Nat.blt d n = true) (hlo : -9223372036854775808 ≤ a + b) (hhi : a + b ≤ 9223372036854775807) (h : QL P n ops Cq rest Kq (upd f d (.int .i64 (a + b)))) : QL P n ops Cq (⟨some d, .binOp .add t x y ty', ty, pos, aft, none⟩ :: rest) Kq f :=
  q_add hx hy hb (by rw [i64_id hlo hhi]; exact h)
theorem q_sub_fit {a b : Int} (hx : ev f x = .int .i64 a) (hy : ev f y = .int .i64 b) (hb : Nat.blt d n = true) (hlo : -9223372036854775808 ≤ a - b) (hhi : a - b ≤ 9223372036854775807) (h : QL P n ops Cq rest Kq (upd f d (.int .i64 (a - b)))) : QL P n ops Cq (⟨some d, .binOp .sub t x y ty', ty, pos, aft, none⟩ :: rest) Kq f :=
  q_sub hx hy hb (by rw [i64_id hlo hhi]; exact h)
theorem q_mul_fit {a b : Int} (hx : ev f x = .int .i64 a) (hy : ev f y = .int .i64 b) (hb : Nat.blt d n = true) (hlo : -9223372036854775808 ≤ a * b) (hhi : a * b ≤ 9223372036854775807) (h : QL P n ops Cq rest Kq (upd f d (.int .i64 (a * b)))) : QL P n ops Cq (⟨some d, .binOp .mul t x y ty', ty, pos, aft, none⟩ :: rest) Kq f :=
  q_mul hx hy hb (by rw [i64_id hlo hhi]; exact h)
theorem q_eqlb {a b : Bool} (hx : ev f x = .bool a) (hy : ev f y = .bool b) (ht : BoolT P t) (hb : Nat.blt d n = true) (h : QL P n ops Cq rest Kq (upd f d (.bool (a == b)))) : QL P n ops Cq (⟨some d, .binOp .eql t x y ty', ty, pos, aft, none⟩ :: rest) Kq f :=
  q_val rfl rfl hb (fun w hp => by have := ht.out; simp [execOp, hx, hy, go_sem, this]) h
theorem q_neqb {a b : Bool} (hx : ev f x = .bool a) (hy : ev f y = .bool b) (ht : BoolT P t) (hb : Nat.blt d n = true) (h : QL P n ops Cq rest Kq (upd f d (.bool (a != b)))) : QL P n ops Cq (⟨some d, .binOp .neq t x y ty', ty, pos, aft, none⟩ :: rest) Kq f :=
  q_val rfl rfl hb (fun w hp => by have := ht.out; simp [execOp, hx, hy, go_sem, this, bne]) h

theorem q_call {fid : FuncId} {xl : List Operand} {al : List Value} {ats : Array TypeId} {w0 : World} {fp : List Nat} {L : Mem} [hcl : Cal P fid] (hc : ∀ w, Hp w0 fp w L → Ret P fid al w fun v' w' => v' = v ∧ Below w.heap.size w w') (hargs : xl.map (ev f) = al) (hb : Nat.blt d n = true) (h : QL P n ops (fun w => Hp w0 fp w L) rest Kq (upd f d v)) : QL P n ops (fun w => Hp w0 fp w L) (⟨some d, .call { callee := .value (.func fid), args := xl.toArray, argTypes := ats }, ty, pos, aft, none⟩ :: rest) Kq f :=
  q_enter rfl rfl hb (fun w => by
    have he := hcl.out al.toArray w
    unfold execOp
    simp [resolve, Deferred.ofValue, invoke, ev, hargs, he]) (fun w hw => Calls.mono (hc w hw) fun e w' ⟨v, he, hv, hb⟩ => ⟨by rw [he, hv], hw.step hb⟩) h
theorem q_callS {fid : FuncId} {xl : List Operand} {al : List Value} {ats : Array TypeId} {w0 : World} {fp : List Nat} {L : Mem} [hcl : Cal P fid] (hc : ∀ w, Hp w0 fp w L → Ret P fid al w fun v' w' => v' = v ∧ w' = w) (hargs : xl.map (ev f) = al) (hb : Nat.blt d n = true) (h : QL P n ops (fun w => Hp w0 fp w L) rest Kq (upd f d v)) : QL P n ops (fun w => Hp w0 fp w L) (⟨some d, .call { callee := .value (.func fid), args := xl.toArray, argTypes := ats }, ty, pos, aft, none⟩ :: rest) Kq f :=
  q_call (fun w hw => (hc w hw).mono fun v w' ⟨a, b⟩ => ⟨a, b ▸ Below.refl _ _⟩) hargs hb h
theorem q_callA {fid : FuncId} {xl : List Operand} {al : List Value} {ats : Array TypeId} {w0 : World} {fp : List Nat} {L : Mem} [hcl : Cal P fid] (hargs : xl.map (ev f) = al) (hb : Nat.blt d n = true) (hc : ∀ w, Hp w0 fp w L → Ret P fid al w fun v' w' => v' = v ∧ Below w.heap.size w w') (h : QL P n ops (fun w => Hp w0 fp w L) rest Kq (upd f d v)) : QL P n ops (fun w => Hp w0 fp w L) (⟨some d, .call { callee := .value (.func fid), args := xl.toArray, argTypes := ats }, ty, pos, aft, none⟩ :: rest) Kq f := q_call hc hargs hb h
end

def bt (s : ByteArray) (i : Nat) : Int := ((s.data.getD i 0).toNat : Int)
theorem bt_get (s : ByteArray) (i : Nat) (h : i < s.size) : ((s[i]'h).toNat : Int) = bt s i := by
  unfold bt
  have h2 : i < s.data.size := h
  unfold Array.getD
  rw [dif_pos h2]; rfl
theorem bt_bd (s : ByteArray) (i : Nat) : 0 ≤ bt s i ∧ bt s i ≤ 255 := by
  unfold bt
  have := (s.data.getD i 0).toNat_lt
  omega
/-- the cells at an address. -/
def At (w : World) (a : Addr) (cs : List Value) : Prop := ∀ j v, cs[j]? = some v → w.cell? (a.add j) = some v
theorem At.hp {w0 w : World} {L : Mem} {a : Addr} {cs : List Value} (h : At w0 a cs) (hp : Hp w0 [] w L) : At w a cs := fun j v hv => hp.oldcell (h j v hv)
/-- a slice of structs in memory: its rows. -/
structure SlR {R : Type} (m : Nat) (enc : R → List Value) (w : World) (p : Option Addr) (n : Nat) (rs : List R) : Prop where
  len : n = rs.length
  get : ∀ i r, rs[i]? = some r → ∃ a, p = some a ∧ At w (a.add (i * m)) (enc r)
theorem SlR.hp {R : Type} {m n : Nat} {enc : R → List Value} {w0 w : World} {L : Mem} {p : Option Addr} {rs : List R} (h : SlR m enc w0 p n rs) (hp : Hp w0 [] w L) : SlR m enc w p n rs :=
  ⟨h.len, fun i r hi => let ⟨a, h1, h2⟩ := h.get i r hi; ⟨a, h1, h2.hp hp⟩⟩
theorem Addr.add_add (a : Addr) (i j : Nat) : (a.add i).add j = a.add (i + j) := by
  unfold Addr.add
  by_cases h1 : i = 0
  · simp [h1]
  · by_cases h2 : j = 0
    · simp [h2]
    · simp [h1, h2, Nat.add_assoc]
theorem Addr.add_zero (a : Addr) : a.add 0 = a := by unfold Addr.add; simp
theorem At.sub {w : World} {a : Addr} {cs ds : List Value} (h : At w a cs) (k : Nat) (hd : ∀ j v, ds[j]? = some v → cs[k + j]? = some v) : At w (a.add k) ds := fun j v hv => by
  rw [Addr.add_add]; exact h _ _ (hd j v hv)

section
variable {P : Program} {n d : Nat} {ops : Array Oper} {rest : List Oper} {Q : Exit → Fr → World → Prop} {f : Fr} {w w0 : World} {fp : List Nat} {L : Mem} {v u : Value} {t ty ty' : TypeId} {pos : String} {aft : Array Edge} {x y z : Operand} {Cq : World → Prop} {Kq : Fr → Prop}
theorem o_lens {s : ByteArray} (hx : ev f x = .string s) (ht : StrT P t) (hb : Nat.blt d n = true) (h : WL P n ops rest Q (upd f d (.int .i64 (s.size : Int))) w) : WL P n ops (⟨some d, .call { callee := .builtin .len, args := #[x], argTypes := #[t] }, ty, pos, aft, none⟩ :: rest) Q f w :=
  o_val rfl rfl hb (by have h1 : P.underlying t = some .string := ht.out; simp [execOp, resolve, invoke, builtin, Builtin.len_, run_underlying h1, hx, goInt, go_sem]) h
theorem q_lens {s : ByteArray} (hx : ev f x = .string s) (ht : StrT P t) (hb : Nat.blt d n = true) (h : QL P n ops Cq rest Kq (upd f d (.int .i64 (s.size : Int)))) : QL P n ops Cq (⟨some d, .call { callee := .builtin .len, args := #[x], argTypes := #[t] }, ty, pos, aft, none⟩ :: rest) Kq f :=
  q_val rfl rfl hb (fun w hp => by have h1 : P.underlying t = some .string := ht.out; simp [execOp, resolve, invoke, builtin, Builtin.len_, run_underlying h1, hx, goInt, go_sem]) h
theorem o_lensl {e : TypeId} {p : Option Addr} {m c : Nat} (hx : ev f x = .slice p m c) (ht : SlE P t e) (hb : Nat.blt d n = true) (h : WL P n ops rest Q (upd f d (.int .i64 (m : Int))) w) : WL P n ops (⟨some d, .call { callee := .builtin .len, args := #[x], argTypes := #[t] }, ty, pos, aft, none⟩ :: rest) Q f w :=
  o_val rfl rfl hb (by have h1 : P.underlying t = some (.slice e) := ht.out; simp [execOp, resolve, invoke, builtin, Builtin.len_, run_underlying h1, hx, goInt, go_sem]) h
theorem q_lensl {e : TypeId} {p : Option Addr} {m c : Nat} (hx : ev f x = .slice p m c) (ht : SlE P t e) (hb : Nat.blt d n = true) (h : QL P n ops Cq rest Kq (upd f d (.int .i64 (m : Int)))) : QL P n ops Cq (⟨some d, .call { callee := .builtin .len, args := #[x], argTypes := #[t] }, ty, pos, aft, none⟩ :: rest) Kq f :=
  q_val rfl rfl hb (fun w hp => by have h1 : P.underlying t = some (.slice e) := ht.out; simp [execOp, resolve, invoke, builtin, Builtin.len_, run_underlying h1, hx, goInt, go_sem]) h
theorem o_capsl {e : TypeId} {p : Option Addr} {m c : Nat} (hx : ev f x = .slice p m c) (ht : SlE P t e) (hb : Nat.blt d n = true) (h : WL P n ops rest Q (upd f d (.int .i64 (c : Int))) w) : WL P n ops (⟨some d, .call { callee := .builtin .cap, args := #[x], argTypes := #[t] }, ty, pos, aft, none⟩ :: rest) Q f w :=
  o_val rfl rfl hb (by have h1 : P.underlying t = some (.slice e) := ht.out; simp [execOp, resolve, invoke, builtin, Builtin.cap_, run_underlying h1, hx, goInt, go_sem]) h
theorem q_capsl {e : TypeId} {p : Option Addr} {m c : Nat} (hx : ev f x = .slice p m c) (ht : SlE P t e) (hb : Nat.blt d n = true) (h : QL P n ops Cq rest Kq (upd f d (.int .i64 (c : Int)))) : QL P n ops Cq (⟨some d, .call { callee := .builtin .cap, args := #[x], argTypes := #[t] }, ty, pos, aft, none⟩ :: rest) Kq f :=
  q_val rfl rfl hb (fun w hp => by have h1 : P.underlying t = some (.slice e) := ht.out; simp [execOp, resolve, invoke, builtin, Builtin.cap_, run_underlying h1, hx, goInt, go_sem]) h
theorem o_ixs {s : ByteArray} {k : IntKind} {i : Int} (hx : ev f x = .string s) (hy : ev f y = .int k i) (ht : StrT P t) (h0 : 0 ≤ i) (h1 : i < s.size) (hb : Nat.blt d n = true) (h : WL P n ops rest Q (upd f d (.int .u8 (bt s i.toNat))) w) : WL P n ops (⟨some d, .index t x y, ty, pos, aft, none⟩ :: rest) Q f w :=
  o_val rfl rfl hb (by
    have h2 : P.underlying t = some .string := ht.out
    have h3 := run_index_string (P := P) w t s k i h2
    rw [dif_pos ⟨h0, h1⟩, bt_get] at h3
    simp [execOp, hx, hy, h3]) h
theorem q_ixs {s : ByteArray} {k : IntKind} {i : Int} (hx : ev f x = .string s) (hy : ev f y = .int k i) (ht : StrT P t) (h0 : 0 ≤ i) (h1 : i < s.size) (hb : Nat.blt d n = true) (h : QL P n ops Cq rest Kq (upd f d (.int .u8 (bt s i.toNat)))) : QL P n ops Cq (⟨some d, .index t x y, ty, pos, aft, none⟩ :: rest) Kq f :=
  q_val rfl rfl hb (fun w hp => by
    have h2 : P.underlying t = some .string := ht.out
    have h3 := run_index_string (P := P) w t s k i h2
    rw [dif_pos ⟨h0, h1⟩, bt_get] at h3
    simp [execOp, hx, hy, h3]) h
theorem o_sslh {s : ByteArray} {k2 : IntKind} {j : Int} (hx : ev f x = .string s) (ht : StrT P t) (hy : ev f y = .int k2 j) (h1 : 0 ≤ j) (h2 : j ≤ s.size) (hb : Nat.blt d n = true) (h : WL P n ops rest Q (upd f d (.string (s.extract (0) (j.toNat)))) w) : WL P n ops (⟨some d, .slice t x (none) (some y) none, ty, pos, aft, none⟩ :: rest) Q f w :=
  o_val rfl rfl hb (by
    have h5 : P.underlying t = some .string := ht.out
    simp [execOp, Instr.sliceAt, Instr.slice, Instr.sliceBounds, run_underlying h5, go_sem, *]) h
theorem q_sslh {s : ByteArray} {k2 : IntKind} {j : Int} (hx : ev f x = .string s) (ht : StrT P t) (hy : ev f y = .int k2 j) (h1 : 0 ≤ j) (h2 : j ≤ s.size) (hb : Nat.blt d n = true) (h : QL P n ops Cq rest Kq (upd f d (.string (s.extract (0) (j.toNat))))) : QL P n ops Cq (⟨some d, .slice t x (none) (some y) none, ty, pos, aft, none⟩ :: rest) Kq f :=
  q_val rfl rfl hb (fun w hp => by
    have h5 : P.underlying t = some .string := ht.out
    simp [execOp, Instr.sliceAt, Instr.slice, Instr.sliceBounds, run_underlying h5, go_sem, *]) h
theorem o_sslhh {s : ByteArray} {k1 : IntKind} {i : Int} {x2 : Operand} {k2 : IntKind} {j : Int} (hx : ev f x = .string s) (ht : StrT P t) (hx2 : ev f x2 = .int k1 i) (hy : ev f y = .int k2 j) (h0 : 0 ≤ i) (h1 : i ≤ j) (h2 : j ≤ s.size) (hb : Nat.blt d n = true) (h : WL P n ops rest Q (upd f d (.string (s.extract (i.toNat) (j.toNat)))) w) : WL P n ops (⟨some d, .slice t x (some x2) (some y) none, ty, pos, aft, none⟩ :: rest) Q f w :=
  o_val rfl rfl hb (by
    have h5 : P.underlying t = some .string := ht.out
    have h6 : 0 ≤ j → (j.toNat : Int) = j := fun h => Int.toNat_of_nonneg h
    simp [execOp, Instr.sliceAt, Instr.slice, Instr.sliceBounds, run_underlying h5, go_sem, *, show ∀ a : Int, 0 ≤ a → (a.toNat : Int) = a from fun a h => Int.toNat_of_nonneg h, (by omega : 0 ≤ j)]) h
theorem q_sslhh {s : ByteArray} {k1 : IntKind} {i : Int} {x2 : Operand} {k2 : IntKind} {j : Int} (hx : ev f x = .string s) (ht : StrT P t) (hx2 : ev f x2 = .int k1 i) (hy : ev f y = .int k2 j) (h0 : 0 ≤ i) (h1 : i ≤ j) (h2 : j ≤ s.size) (hb : Nat.blt d n = true) (h : QL P n ops Cq rest Kq (upd f d (.string (s.extract (i.toNat) (j.toNat))))) : QL P n ops Cq (⟨some d, .slice t x (some x2) (some y) none, ty, pos, aft, none⟩ :: rest) Kq f :=
  q_val rfl rfl hb (fun w hp => by
    have h5 : P.underlying t = some .string := ht.out
    have h6 : 0 ≤ j → (j.toNat : Int) = j := fun h => Int.toNat_of_nonneg h
    simp [execOp, Instr.sliceAt, Instr.slice, Instr.sliceBounds, run_underlying h5, go_sem, *, show ∀ a : Int, 0 ≤ a → (a.toNat : Int) = a from fun a h => Int.toNat_of_nonneg h, (by omega : 0 ≤ j)]) h
theorem o_ssll {s : ByteArray} {k1 : IntKind} {i : Int} {x2 : Operand} (hx : ev f x = .string s) (ht : StrT P t) (hx2 : ev f x2 = .int k1 i) (h0 : 0 ≤ i) (h1 : i ≤ s.size) (hb : Nat.blt d n = true) (h : WL P n ops rest Q (upd f d (.string (s.extract (i.toNat) (s.size)))) w) : WL P n ops (⟨some d, .slice t x (some x2) (none) none, ty, pos, aft, none⟩ :: rest) Q f w :=
  o_val rfl rfl hb (by
    have h5 : P.underlying t = some .string := ht.out
    simp [execOp, Instr.sliceAt, Instr.slice, Instr.sliceBounds, run_underlying h5, go_sem, *]) h
theorem q_ssll {s : ByteArray} {k1 : IntKind} {i : Int} {x2 : Operand} (hx : ev f x = .string s) (ht : StrT P t) (hx2 : ev f x2 = .int k1 i) (h0 : 0 ≤ i) (h1 : i ≤ s.size) (hb : Nat.blt d n = true) (h : QL P n ops Cq rest Kq (upd f d (.string (s.extract (i.toNat) (s.size))))) : QL P n ops Cq (⟨some d, .slice t x (some x2) (none) none, ty, pos, aft, none⟩ :: rest) Kq f :=
  q_val rfl rfl hb (fun w hp => by
    have h5 : P.underlying t = some .string := ht.out
    simp [execOp, Instr.sliceAt, Instr.slice, Instr.sliceBounds, run_underlying h5, go_sem, *]) h
theorem o_eqstr {a b : ByteArray} (hx : ev f x = .string a) (hy : ev f y = .string b) (hb : Nat.blt d n = true) (h : WL P n ops rest Q (upd f d (.bool (decide (a = b)))) w) : WL P n ops (⟨some d, .binOp .eql t x y ty', ty, pos, aft, none⟩ :: rest) Q f w :=
  o_val rfl rfl hb (by
    have e : (a.toList == b.toList) = decide (a = b) := by
      by_cases h : a = b
      · simp [h]
      · have : a.toList ≠ b.toList := fun h2 => h (ByteArray.ext (by simpa [ByteArray.toList_eq] using h2))
        simp [h, this]
    simp [execOp, hx, hy, go_sem, e]) h
theorem q_eqstr {a b : ByteArray} (hx : ev f x = .string a) (hy : ev f y = .string b) (hb : Nat.blt d n = true) (h : QL P n ops Cq rest Kq (upd f d (.bool (decide (a = b))))) : QL P n ops Cq (⟨some d, .binOp .eql t x y ty', ty, pos, aft, none⟩ :: rest) Kq f :=
  q_val rfl rfl hb (fun w hp => by
    have e : (a.toList == b.toList) = decide (a = b) := by
      by_cases h : a = b
      · simp [h]
      · have : a.toList ≠ b.toList := fun h2 => h (ByteArray.ext (by simpa [ByteArray.toList_eq] using h2))
        simp [h, this]
    simp [execOp, hx, hy, go_sem, e]) h
theorem o_nestr {a b : ByteArray} (hx : ev f x = .string a) (hy : ev f y = .string b) (hb : Nat.blt d n = true) (h : WL P n ops rest Q (upd f d (.bool (decide (¬ a = b)))) w) : WL P n ops (⟨some d, .binOp .neq t x y ty', ty, pos, aft, none⟩ :: rest) Q f w :=
  o_val rfl rfl hb (by
    have e : (a.toList == b.toList) = decide (a = b) := by
      by_cases h : a = b
      · simp [h]
      · have : a.toList ≠ b.toList := fun h2 => h (ByteArray.ext (by simpa [ByteArray.toList_eq] using h2))
        simp [h, this]
    simp [execOp, hx, hy, go_sem, e]) h
theorem q_nestr {a b : ByteArray} (hx : ev f x = .string a) (hy : ev f y = .string b) (hb : Nat.blt d n = true) (h : QL P n ops Cq rest Kq (upd f d (.bool (decide (¬ a = b))))) : QL P n ops Cq (⟨some d, .binOp .neq t x y ty', ty, pos, aft, none⟩ :: rest) Kq f :=
  q_val rfl rfl hb (fun w hp => by
    have e : (a.toList == b.toList) = decide (a = b) := by
      by_cases h : a = b
      · simp [h]
      · have : a.toList ≠ b.toList := fun h2 => h (ByteArray.ext (by simpa [ByteArray.toList_eq] using h2))
        simp [h, this]
    simp [execOp, hx, hy, go_sem, e]) h
theorem o_shl {k yk : IntKind} {a b : Int} (hx : ev f x = .int k a) (hy : ev f y = .int yk b) (h0 : 0 ≤ b) (h1 : b ≤ k.bits) (hb : Nat.blt d n = true) (h : WL P n ops rest Q (upd f d (.int k (k.wrap (a * 2 ^ b.toNat)))) w) : WL P n ops (⟨some d, .binOp .shl t x y ty', ty, pos, aft, none⟩ :: rest) Q f w :=
  o_val rfl rfl hb (by simp [execOp, hx, hy, go_sem, shift_shl k yk a b h0 h1]) h
theorem q_shl {k yk : IntKind} {a b : Int} (hx : ev f x = .int k a) (hy : ev f y = .int yk b) (h0 : 0 ≤ b) (h1 : b ≤ k.bits) (hb : Nat.blt d n = true) (h : QL P n ops Cq rest Kq (upd f d (.int k (k.wrap (a * 2 ^ b.toNat))))) : QL P n ops Cq (⟨some d, .binOp .shl t x y ty', ty, pos, aft, none⟩ :: rest) Kq f :=
  q_val rfl rfl hb (fun w hp => by simp [execOp, hx, hy, go_sem, shift_shl k yk a b h0 h1]) h
theorem o_shr {k yk : IntKind} {a b : Int} (hx : ev f x = .int k a) (hy : ev f y = .int yk b) (h0 : 0 ≤ b) (h1 : b ≤ k.bits) (hb : Nat.blt d n = true) (h : WL P n ops rest Q (upd f d (.int k (a / 2 ^ b.toNat))) w) : WL P n ops (⟨some d, .binOp .shr t x y ty', ty, pos, aft, none⟩ :: rest) Q f w :=
  o_val rfl rfl hb (by simp [execOp, hx, hy, go_sem, shift_shr k yk a b h0 h1]) h
theorem q_shr {k yk : IntKind} {a b : Int} (hx : ev f x = .int k a) (hy : ev f y = .int yk b) (h0 : 0 ≤ b) (h1 : b ≤ k.bits) (hb : Nat.blt d n = true) (h : QL P n ops Cq rest Kq (upd f d (.int k (a / 2 ^ b.toNat)))) : QL P n ops Cq (⟨some d, .binOp .shr t x y ty', ty, pos, aft, none⟩ :: rest) Kq f :=
  q_val rfl rfl hb (fun w hp => by simp [execOp, hx, hy, go_sem, shift_shr k yk a b h0 h1]) h
theorem o_andn {k : IntKind} {a b : Int} (hx : ev f x = .int k a) (hy : ev f y = .int k b) (hb : Nat.blt d n = true) (h : WL P n ops rest Q (upd f d (.int k (bits .andNot k a b))) w) : WL P n ops (⟨some d, .binOp .andNot t x y ty', ty, pos, aft, none⟩ :: rest) Q f w :=
  o_val rfl rfl hb (by simp [execOp, hx, hy, go_sem]) h
theorem q_andn {k : IntKind} {a b : Int} (hx : ev f x = .int k a) (hy : ev f y = .int k b) (hb : Nat.blt d n = true) (h : QL P n ops Cq rest Kq (upd f d (.int k (bits .andNot k a b)))) : QL P n ops Cq (⟨some d, .binOp .andNot t x y ty', ty, pos, aft, none⟩ :: rest) Kq f :=
  q_val rfl rfl hb (fun w hp => by simp [execOp, hx, hy, go_sem]) h
theorem o_loadOA {m : Nat} {a : Addr} {cs : List Value} (hp : Hp w0 [] w L) (hs : Ag P t) (hm : Sz P t m) (hx : ev f x = .pointer (some a)) (hat : At w0 a cs) (hl : cs.length = m) (hb : Nat.blt d n = true) (h : WL P n ops rest Q (upd f d (.agg cs.toArray)) w) : WL P n ops (⟨some d, .load t x, ty, pos, aft, none⟩ :: rest) Q f w :=
  o_val rfl rfl hb (by
    have hlc : (loadCells a cs.length).run P w = .ok cs.toArray w := run_loadCells_list (P := P) w a _ (hat.hp hp)
    have hlv : (loadVar t a).run P w = .ok (.agg cs.toArray) w := by
      unfold loadVar
      rw [hl] at hlc
      simp [run_isAgg_yes, run_sizeOf, hlc]
    simp [execOp, Instr.loadAt, Instr.sureAddr, hx, hlv]) h
theorem q_loadOA {m : Nat} {a : Addr} {cs : List Value} (hs : Ag P t) (hm : Sz P t m) (hx : ev f x = .pointer (some a)) (hat : At w0 a cs) (hl : cs.length = m) (hb : Nat.blt d n = true) (h : QL P n ops (fun w => Hp w0 [] w L) rest Kq (upd f d (.agg cs.toArray))) : QL P n ops (fun w => Hp w0 [] w L) (⟨some d, .load t x, ty, pos, aft, none⟩ :: rest) Kq f :=
  q_val rfl rfl hb (fun w hp => by
    have hlc : (loadCells a cs.length).run P w = .ok cs.toArray w := run_loadCells_list (P := P) w a _ (hat.hp hp)
    have hlv : (loadVar t a).run P w = .ok (.agg cs.toArray) w := by
      unfold loadVar
      rw [hl] at hlc
      simp [run_isAgg_yes, run_sizeOf, hlc]
    simp [execOp, Instr.loadAt, Instr.sureAddr, hx, hlv]) h
theorem o_loadO1 {a : Addr} {cs : List Value} (hp : Hp w0 [] w L) (hs : Sc P t) (hx : ev f x = .pointer (some a)) (hat : At w0 a cs) (hl : cs = [v]) (hb : Nat.blt d n = true) (h : WL P n ops rest Q (upd f d (v)) w) : WL P n ops (⟨some d, .load t x, ty, pos, aft, none⟩ :: rest) Q f w :=
  o_val rfl rfl hb (by
    have hc : w.cell? a = some v := by have := (hat.hp hp) 0 v (by rw [hl]; rfl); rwa [Addr.add_zero] at this
    simp [execOp, Instr.loadAt, Instr.sureAddr, loadVar, hx, run_isAgg_no, hc, go_sem]) h
theorem q_loadO1 {a : Addr} {cs : List Value} (hs : Sc P t) (hx : ev f x = .pointer (some a)) (hat : At w0 a cs) (hl : cs = [v]) (hb : Nat.blt d n = true) (h : QL P n ops (fun w => Hp w0 [] w L) rest Kq (upd f d (v))) : QL P n ops (fun w => Hp w0 [] w L) (⟨some d, .load t x, ty, pos, aft, none⟩ :: rest) Kq f :=
  q_val rfl rfl hb (fun w hp => by
    have hc : w.cell? a = some v := by have := (hat.hp hp) 0 v (by rw [hl]; rfl); rwa [Addr.add_zero] at this
    simp [execOp, Instr.loadAt, Instr.sureAddr, loadVar, hx, run_isAgg_no, hc, go_sem]) h
theorem o_conv_fit {k2 ks : IntKind} {a : Int} {t2 : TypeId} (hs : IntT P t ks) (hd : IntT P t2 .i64) (hx : ev f x = .int k2 a) (hlo : -9223372036854775808 ≤ a) (hhi : a ≤ 9223372036854775807) (hb : Nat.blt d n = true) (h : WL P n ops rest Q (upd f d (.int .i64 a)) w) : WL P n ops (⟨some d, .convert t t2 x, ty, pos, aft, none⟩ :: rest) Q f w :=
  o_val rfl rfl hb (by
    have h1 : P.underlying t = some (.int ks) := hs.out
    have h2 : P.underlying t2 = some (.int .i64) := hd.out
    have h3 := i64_id hlo hhi
    simp [execOp, hx, go_sem, h1, h2, h3]) h
theorem q_conv_fit {k2 ks : IntKind} {a : Int} {t2 : TypeId} (hs : IntT P t ks) (hd : IntT P t2 .i64) (hx : ev f x = .int k2 a) (hlo : -9223372036854775808 ≤ a) (hhi : a ≤ 9223372036854775807) (hb : Nat.blt d n = true) (h : QL P n ops Cq rest Kq (upd f d (.int .i64 a))) : QL P n ops Cq (⟨some d, .convert t t2 x, ty, pos, aft, none⟩ :: rest) Kq f :=
  q_val rfl rfl hb (fun w hp => by
    have h1 : P.underlying t = some (.int ks) := hs.out
    have h2 : P.underlying t2 = some (.int .i64) := hd.out
    have h3 := i64_id hlo hhi
    simp [execOp, hx, go_sem, h1, h2, h3]) h
theorem o_conv_bt {k2 ks : IntKind} {s : ByteArray} {i : Nat} {t2 : TypeId} (hs : IntT P t ks) (hd : IntT P t2 .i64) (hx : ev f x = .int k2 (bt s i)) (hb : Nat.blt d n = true) (h : WL P n ops rest Q (upd f d (.int .i64 (bt s i))) w) : WL P n ops (⟨some d, .convert t t2 x, ty, pos, aft, none⟩ :: rest) Q f w :=
  o_val rfl rfl hb (by
    have h1 : P.underlying t = some (.int ks) := hs.out
    have h2 : P.underlying t2 = some (.int .i64) := hd.out
    have h4 := bt_bd s i
    have h3 := i64_id (n := bt s i) (by omega) (by omega)
    simp [execOp, hx, go_sem, h1, h2, h3]) h
theorem q_conv_bt {k2 ks : IntKind} {s : ByteArray} {i : Nat} {t2 : TypeId} (hs : IntT P t ks) (hd : IntT P t2 .i64) (hx : ev f x = .int k2 (bt s i)) (hb : Nat.blt d n = true) (h : QL P n ops Cq rest Kq (upd f d (.int .i64 (bt s i)))) : QL P n ops Cq (⟨some d, .convert t t2 x, ty, pos, aft, none⟩ :: rest) Kq f :=
  q_val rfl rfl hb (fun w hp => by
    have h1 : P.underlying t = some (.int ks) := hs.out
    have h2 : P.underlying t2 = some (.int .i64) := hd.out
    have h4 := bt_bd s i
    have h3 := i64_id (n := bt s i) (by omega) (by omega)
    simp [execOp, hx, go_sem, h1, h2, h3]) h
theorem o_rem_nn {k : IntKind} {a b : Int} (hx : ev f x = .int k a) (hy : ev f y = .int k b) (h0 : b ≠ 0) (h1 : 0 ≤ a) (hb : Nat.blt d n = true) (h : WL P n ops rest Q (upd f d (.int k (a % b))) w) : WL P n ops (⟨some d, .binOp .rem t x y ty', ty, pos, aft, none⟩ :: rest) Q f w :=
  o_val rfl rfl hb (by
    have h3 := Int.tmod_eq_emod_of_nonneg (b := b) h1
    simp [execOp, hx, hy, h0, h3, go_sem]) h
theorem q_rem_nn {k : IntKind} {a b : Int} (hx : ev f x = .int k a) (hy : ev f y = .int k b) (h0 : b ≠ 0) (h1 : 0 ≤ a) (hb : Nat.blt d n = true) (h : QL P n ops Cq rest Kq (upd f d (.int k (a % b)))) : QL P n ops Cq (⟨some d, .binOp .rem t x y ty', ty, pos, aft, none⟩ :: rest) Kq f :=
  q_val rfl rfl hb (fun w hp => by
    have h3 := Int.tmod_eq_emod_of_nonneg (b := b) h1
    simp [execOp, hx, hy, h0, h3, go_sem]) h
theorem o_iaR {R : Type} {m N c : Nat} {e : TypeId} {enc : R → List Value} {p : Option Addr} {rs : List R} {k : IntKind} {i : Int} (hs : SlR m enc w0 p N rs) (ht : SlE P t e) (hm : Sz P e m) (hx : ev f x = .slice p N c) (hy : ev f y = .int k i) (h0 : 0 ≤ i) (h1 : i < N) (hb : Nat.blt d n = true)
    (h : ∀ a r, rs[i.toNat]? = some r → At w0 a (enc r) → WL P n ops rest Q (upd f d (.pointer (some a))) w) : WL P n ops (⟨some d, .indexAddr t x y, ty, pos, aft, none⟩ :: rest) Q f w := by
  have hlt : i.toNat < rs.length := by have := hs.len; omega
  obtain ⟨a, rfl, hat⟩ := hs.get i.toNat rs[i.toNat] (by simp [hlt])
  refine o_val rfl rfl hb ?_ (h _ _ (by simp [hlt]) hat)
  have h2 : P.underlying t = some (.slice e) := ht.out
  simp [execOp, Instr.indexAt, asIntOf, hx, hy, run_underlying h2, run_sizeOf, h0, h1, go_sem]
theorem q_iaR {R : Type} {m N c : Nat} {e : TypeId} {enc : R → List Value} {p : Option Addr} {rs : List R} {k : IntKind} {i : Int} (hs : SlR m enc w0 p N rs) (ht : SlE P t e) (hm : Sz P e m) (hx : ev f x = .slice p N c) (hy : ev f y = .int k i) (h0 : 0 ≤ i) (h1 : i < N) (hb : Nat.blt d n = true)
    (h : ∀ a r, rs[i.toNat]? = some r → At w0 a (enc r) → QL P n ops Cq rest Kq (upd f d (.pointer (some a)))) : QL P n ops Cq (⟨some d, .indexAddr t x y, ty, pos, aft, none⟩ :: rest) Kq f := by
  have hlt : i.toNat < rs.length := by have := hs.len; omega
  obtain ⟨a, rfl, hat⟩ := hs.get i.toNat rs[i.toNat] (by simp [hlt])
  refine q_val rfl rfl hb (fun w hp => ?_) (h _ _ (by simp [hlt]) hat)
  have h2 : P.underlying t = some (.slice e) := ht.out
  simp [execOp, Instr.indexAt, asIntOf, hx, hy, run_underlying h2, run_sizeOf, h0, h1, go_sem]
end
end Go.Proofs.Ytipjhbkjgidljaa.E
