/- A step engine for walks: the concrete operations. -/
import Derived.Test.YtipjhbkjgidljaaEop
set_option linter.unusedVariables false
set_option linter.unusedSimpArgs false
set_option linter.unusedSectionVars false
namespace Go.Proofs.Ytipjhbkjgidljaa.E
open Go Go.RowKit

section
variable {P : Program} {n d : Nat} {ops : Array Oper} {rest : List Oper} {Q : Exit → Fr → World → Prop} {f : Fr} {w w' : World} {v u : Value} {t ty ty' : TypeId} {pos : String} {aft : Array Edge} {x y z : Operand}

theorem beq_eq_decide {a b : Int} : (a == b) = decide (a = b) := by
  by_cases h : a = b <;> simp [h]
theorem bne_eq_decide {a b : Int} : (a != b) = decide (a ≠ b) := by
  by_cases h : a = b <;> simp [h]
theorem o_move (hx : ev f x = v) (hb : Nat.blt d n = true) (h : WL P n ops rest Q (upd f d (v)) w) : WL P n ops (⟨some d, .move x, ty, pos, aft, none⟩ :: rest) Q f w :=
  o_val rfl rfl hb (by simp [execOp, hx, go_sem]) h
theorem o_assign (hx : ev f x = v) (hb : Nat.blt d n = true) (h : WL P n ops rest Q (upd f d (v)) w) : WL P n ops (⟨some d, .assign x, ty, pos, aft, none⟩ :: rest) Q f w :=
  o_val rfl rfl hb (by simp [execOp, hx, go_sem]) h
theorem o_move_i {k : IntKind} {a : Int} (hx : ev f x = .int k a) (hb : Nat.blt d n = true) (h : WL P n ops rest Q (upd f d (.int k a)) w) : WL P n ops (⟨some d, .move x, ty, pos, aft, none⟩ :: rest) Q f w := o_move hx hb h
theorem o_move_b {b : Bool} (hx : ev f x = .bool b) (hb : Nat.blt d n = true) (h : WL P n ops rest Q (upd f d (.bool b)) w) : WL P n ops (⟨some d, .move x, ty, pos, aft, none⟩ :: rest) Q f w := o_move hx hb h
theorem o_move_s {s : ByteArray} (hx : ev f x = .string s) (hb : Nat.blt d n = true) (h : WL P n ops rest Q (upd f d (.string s)) w) : WL P n ops (⟨some d, .move x, ty, pos, aft, none⟩ :: rest) Q f w := o_move hx hb h
theorem o_move_p {p : Option Addr} (hx : ev f x = .pointer p) (hb : Nat.blt d n = true) (h : WL P n ops rest Q (upd f d (.pointer p)) w) : WL P n ops (⟨some d, .move x, ty, pos, aft, none⟩ :: rest) Q f w := o_move hx hb h
theorem o_move_sl {p : Option Addr} {m c : Nat} (hx : ev f x = .slice p m c) (hb : Nat.blt d n = true) (h : WL P n ops rest Q (upd f d (.slice p m c)) w) : WL P n ops (⟨some d, .move x, ty, pos, aft, none⟩ :: rest) Q f w := o_move hx hb h
theorem o_move_ag {cs : Array Value} (hx : ev f x = .agg cs) (hb : Nat.blt d n = true) (h : WL P n ops rest Q (upd f d (.agg cs)) w) : WL P n ops (⟨some d, .move x, ty, pos, aft, none⟩ :: rest) Q f w := o_move hx hb h
theorem o_move_tu {cs : Array Value} (hx : ev f x = .tuple cs) (hb : Nat.blt d n = true) (h : WL P n ops rest Q (upd f d (.tuple cs)) w) : WL P n ops (⟨some d, .move x, ty, pos, aft, none⟩ :: rest) Q f w := o_move hx hb h
theorem o_move_ni  (hx : ev f x = .nilIface) (hb : Nat.blt d n = true) (h : WL P n ops rest Q (upd f d (.nilIface)) w) : WL P n ops (⟨some d, .move x, ty, pos, aft, none⟩ :: rest) Q f w := o_move hx hb h
theorem o_move_if {tt : TypeId} (hx : ev f x = .iface tt v) (hb : Nat.blt d n = true) (h : WL P n ops rest Q (upd f d (.iface tt v)) w) : WL P n ops (⟨some d, .move x, ty, pos, aft, none⟩ :: rest) Q f w := o_move hx hb h
theorem o_move_nf  (hx : ev f x = .nilFunc) (hb : Nat.blt d n = true) (h : WL P n ops rest Q (upd f d (.nilFunc)) w) : WL P n ops (⟨some d, .move x, ty, pos, aft, none⟩ :: rest) Q f w := o_move hx hb h
theorem o_move_fn {fn : Fn} {c1 c2 : Array Value} (hx : ev f x = .func fn c1 c2) (hb : Nat.blt d n = true) (h : WL P n ops rest Q (upd f d (.func fn c1 c2)) w) : WL P n ops (⟨some d, .move x, ty, pos, aft, none⟩ :: rest) Q f w := o_move hx hb h
theorem o_move_mp {r : Option Nat} (hx : ev f x = .map r) (hb : Nat.blt d n = true) (h : WL P n ops rest Q (upd f d (.map r)) w) : WL P n ops (⟨some d, .move x, ty, pos, aft, none⟩ :: rest) Q f w := o_move hx hb h
theorem o_assign_i {k : IntKind} {a : Int} (hx : ev f x = .int k a) (hb : Nat.blt d n = true) (h : WL P n ops rest Q (upd f d (.int k a)) w) : WL P n ops (⟨some d, .assign x, ty, pos, aft, none⟩ :: rest) Q f w := o_assign hx hb h
theorem o_assign_b {b : Bool} (hx : ev f x = .bool b) (hb : Nat.blt d n = true) (h : WL P n ops rest Q (upd f d (.bool b)) w) : WL P n ops (⟨some d, .assign x, ty, pos, aft, none⟩ :: rest) Q f w := o_assign hx hb h
theorem o_assign_s {s : ByteArray} (hx : ev f x = .string s) (hb : Nat.blt d n = true) (h : WL P n ops rest Q (upd f d (.string s)) w) : WL P n ops (⟨some d, .assign x, ty, pos, aft, none⟩ :: rest) Q f w := o_assign hx hb h
theorem o_assign_p {p : Option Addr} (hx : ev f x = .pointer p) (hb : Nat.blt d n = true) (h : WL P n ops rest Q (upd f d (.pointer p)) w) : WL P n ops (⟨some d, .assign x, ty, pos, aft, none⟩ :: rest) Q f w := o_assign hx hb h
theorem o_assign_sl {p : Option Addr} {m c : Nat} (hx : ev f x = .slice p m c) (hb : Nat.blt d n = true) (h : WL P n ops rest Q (upd f d (.slice p m c)) w) : WL P n ops (⟨some d, .assign x, ty, pos, aft, none⟩ :: rest) Q f w := o_assign hx hb h
theorem o_assign_ag {cs : Array Value} (hx : ev f x = .agg cs) (hb : Nat.blt d n = true) (h : WL P n ops rest Q (upd f d (.agg cs)) w) : WL P n ops (⟨some d, .assign x, ty, pos, aft, none⟩ :: rest) Q f w := o_assign hx hb h
theorem o_assign_tu {cs : Array Value} (hx : ev f x = .tuple cs) (hb : Nat.blt d n = true) (h : WL P n ops rest Q (upd f d (.tuple cs)) w) : WL P n ops (⟨some d, .assign x, ty, pos, aft, none⟩ :: rest) Q f w := o_assign hx hb h
theorem o_assign_ni  (hx : ev f x = .nilIface) (hb : Nat.blt d n = true) (h : WL P n ops rest Q (upd f d (.nilIface)) w) : WL P n ops (⟨some d, .assign x, ty, pos, aft, none⟩ :: rest) Q f w := o_assign hx hb h
theorem o_assign_if {tt : TypeId} (hx : ev f x = .iface tt v) (hb : Nat.blt d n = true) (h : WL P n ops rest Q (upd f d (.iface tt v)) w) : WL P n ops (⟨some d, .assign x, ty, pos, aft, none⟩ :: rest) Q f w := o_assign hx hb h
theorem o_assign_nf  (hx : ev f x = .nilFunc) (hb : Nat.blt d n = true) (h : WL P n ops rest Q (upd f d (.nilFunc)) w) : WL P n ops (⟨some d, .assign x, ty, pos, aft, none⟩ :: rest) Q f w := o_assign hx hb h
theorem o_assign_fn {fn : Fn} {c1 c2 : Array Value} (hx : ev f x = .func fn c1 c2) (hb : Nat.blt d n = true) (h : WL P n ops rest Q (upd f d (.func fn c1 c2)) w) : WL P n ops (⟨some d, .assign x, ty, pos, aft, none⟩ :: rest) Q f w := o_assign hx hb h
theorem o_assign_mp {r : Option Nat} (hx : ev f x = .map r) (hb : Nat.blt d n = true) (h : WL P n ops rest Q (upd f d (.map r)) w) : WL P n ops (⟨some d, .assign x, ty, pos, aft, none⟩ :: rest) Q f w := o_assign hx hb h
theorem o_pick_t (hz : ev f z = .bool true) (hx : ev f x = v) (hb : Nat.blt d n = true) (h : WL P n ops rest Q (upd f d (v)) w) : WL P n ops (⟨some d, .pick z x y, ty, pos, aft, none⟩ :: rest) Q f w :=
  o_val rfl rfl hb (by simp [execOp, hz, hx, asBool, go_sem]) h
theorem o_pick_f (hz : ev f z = .bool false) (hy : ev f y = v) (hb : Nat.blt d n = true) (h : WL P n ops rest Q (upd f d (v)) w) : WL P n ops (⟨some d, .pick z x y, ty, pos, aft, none⟩ :: rest) Q f w :=
  o_val rfl rfl hb (by simp [execOp, hz, hy, asBool, go_sem]) h
theorem o_pick_tb {b : Bool} (hz : ev f z = .bool true) (hx : ev f x = .bool b) (hb : Nat.blt d n = true) (h : WL P n ops rest Q (upd f d (.bool b)) w) : WL P n ops (⟨some d, .pick z x y, ty, pos, aft, none⟩ :: rest) Q f w := o_pick_t hz hx hb h
theorem o_pick_fb {b : Bool} (hz : ev f z = .bool false) (hy : ev f y = .bool b) (hb : Nat.blt d n = true) (h : WL P n ops rest Q (upd f d (.bool b)) w) : WL P n ops (⟨some d, .pick z x y, ty, pos, aft, none⟩ :: rest) Q f w := o_pick_f hz hy hb h
theorem o_pick_ti {k : IntKind} {a : Int} (hz : ev f z = .bool true) (hx : ev f x = .int k a) (hb : Nat.blt d n = true) (h : WL P n ops rest Q (upd f d (.int k a)) w) : WL P n ops (⟨some d, .pick z x y, ty, pos, aft, none⟩ :: rest) Q f w := o_pick_t hz hx hb h
theorem o_pick_fi {k : IntKind} {a : Int} (hz : ev f z = .bool false) (hy : ev f y = .int k a) (hb : Nat.blt d n = true) (h : WL P n ops rest Q (upd f d (.int k a)) w) : WL P n ops (⟨some d, .pick z x y, ty, pos, aft, none⟩ :: rest) Q f w := o_pick_f hz hy hb h
theorem o_pick_ts {s : ByteArray} (hz : ev f z = .bool true) (hx : ev f x = .string s) (hb : Nat.blt d n = true) (h : WL P n ops rest Q (upd f d (.string s)) w) : WL P n ops (⟨some d, .pick z x y, ty, pos, aft, none⟩ :: rest) Q f w := o_pick_t hz hx hb h
theorem o_pick_fs {s : ByteArray} (hz : ev f z = .bool false) (hy : ev f y = .string s) (hb : Nat.blt d n = true) (h : WL P n ops rest Q (upd f d (.string s)) w) : WL P n ops (⟨some d, .pick z x y, ty, pos, aft, none⟩ :: rest) Q f w := o_pick_f hz hy hb h
theorem o_extract {i : Nat} {vs : Array Value} (hx : ev f x = .tuple vs) (hv : vs[i]? = some v) (hb : Nat.blt d n = true) (h : WL P n ops rest Q (upd f d v) w) : WL P n ops (⟨some d, .extract x i, ty, pos, aft, none⟩ :: rest) Q f w :=
  o_val rfl rfl hb (by simp [execOp, Instr.extract, hx, hv, go_sem]) h
theorem o_add {k : IntKind} {a b : Int} (hx : ev f x = .int k a) (hy : ev f y = .int k b)  (hb : Nat.blt d n = true) (h : WL P n ops rest Q (upd f d (.int k (k.wrap (a + b)))) w) : WL P n ops (⟨some d, .binOp .add t x y ty', ty, pos, aft, none⟩ :: rest) Q f w :=
  o_val rfl rfl hb (by simp [execOp, hx, hy, go_sem]) h
theorem o_sub {k : IntKind} {a b : Int} (hx : ev f x = .int k a) (hy : ev f y = .int k b)  (hb : Nat.blt d n = true) (h : WL P n ops rest Q (upd f d (.int k (k.wrap (a - b)))) w) : WL P n ops (⟨some d, .binOp .sub t x y ty', ty, pos, aft, none⟩ :: rest) Q f w :=
  o_val rfl rfl hb (by simp [execOp, hx, hy, go_sem]) h
theorem o_mul {k : IntKind} {a b : Int} (hx : ev f x = .int k a) (hy : ev f y = .int k b)  (hb : Nat.blt d n = true) (h : WL P n ops rest Q (upd f d (.int k (k.wrap (a * b)))) w) : WL P n ops (⟨some d, .binOp .mul t x y ty', ty, pos, aft, none⟩ :: rest) Q f w :=
  o_val rfl rfl hb (by simp [execOp, hx, hy, go_sem]) h
theorem o_quo {k : IntKind} {a b : Int} (hx : ev f x = .int k a) (hy : ev f y = .int k b) (h0 : b ≠ 0) (hb : Nat.blt d n = true) (h : WL P n ops rest Q (upd f d (.int k (k.wrap (a.tdiv b)))) w) : WL P n ops (⟨some d, .binOp .quo t x y ty', ty, pos, aft, none⟩ :: rest) Q f w :=
  o_val rfl rfl hb (by simp [execOp, hx, hy, h0, go_sem]) h
theorem o_rem {k : IntKind} {a b : Int} (hx : ev f x = .int k a) (hy : ev f y = .int k b) (h0 : b ≠ 0) (hb : Nat.blt d n = true) (h : WL P n ops rest Q (upd f d (.int k (a.tmod b))) w) : WL P n ops (⟨some d, .binOp .rem t x y ty', ty, pos, aft, none⟩ :: rest) Q f w :=
  o_val rfl rfl hb (by simp [execOp, hx, hy, h0, go_sem]) h
theorem o_and {k : IntKind} {a b : Int} (hx : ev f x = .int k a) (hy : ev f y = .int k b)  (hb : Nat.blt d n = true) (h : WL P n ops rest Q (upd f d (.int k (bits .and k a b))) w) : WL P n ops (⟨some d, .binOp .and t x y ty', ty, pos, aft, none⟩ :: rest) Q f w :=
  o_val rfl rfl hb (by simp [execOp, hx, hy, go_sem]) h
theorem o_or {k : IntKind} {a b : Int} (hx : ev f x = .int k a) (hy : ev f y = .int k b)  (hb : Nat.blt d n = true) (h : WL P n ops rest Q (upd f d (.int k (bits .or k a b))) w) : WL P n ops (⟨some d, .binOp .or t x y ty', ty, pos, aft, none⟩ :: rest) Q f w :=
  o_val rfl rfl hb (by simp [execOp, hx, hy, go_sem]) h
theorem o_xor {k : IntKind} {a b : Int} (hx : ev f x = .int k a) (hy : ev f y = .int k b)  (hb : Nat.blt d n = true) (h : WL P n ops rest Q (upd f d (.int k (bits .xor k a b))) w) : WL P n ops (⟨some d, .binOp .xor t x y ty', ty, pos, aft, none⟩ :: rest) Q f w :=
  o_val rfl rfl hb (by simp [execOp, hx, hy, go_sem]) h
theorem o_eql {k : IntKind} {a b : Int} (hx : ev f x = .int k a) (hy : ev f y = .int k b)  (hb : Nat.blt d n = true) (h : WL P n ops rest Q (upd f d (.bool (decide (a = b)))) w) : WL P n ops (⟨some d, .binOp .eql t x y ty', ty, pos, aft, none⟩ :: rest) Q f w :=
  o_val rfl rfl hb (by by_cases e : a = b <;> simp [execOp, hx, hy, e, go_sem]) h
theorem o_neq {k : IntKind} {a b : Int} (hx : ev f x = .int k a) (hy : ev f y = .int k b)  (hb : Nat.blt d n = true) (h : WL P n ops rest Q (upd f d (.bool (decide (a ≠ b)))) w) : WL P n ops (⟨some d, .binOp .neq t x y ty', ty, pos, aft, none⟩ :: rest) Q f w :=
  o_val rfl rfl hb (by by_cases e : a = b <;> simp [execOp, hx, hy, e, go_sem]) h
theorem o_lss {k : IntKind} {a b : Int} (hx : ev f x = .int k a) (hy : ev f y = .int k b)  (hb : Nat.blt d n = true) (h : WL P n ops rest Q (upd f d (.bool (decide (a < b)))) w) : WL P n ops (⟨some d, .binOp .lss t x y ty', ty, pos, aft, none⟩ :: rest) Q f w :=
  o_val rfl rfl hb (by simp [execOp, hx, hy, go_sem]) h
theorem o_leq {k : IntKind} {a b : Int} (hx : ev f x = .int k a) (hy : ev f y = .int k b)  (hb : Nat.blt d n = true) (h : WL P n ops rest Q (upd f d (.bool (decide (a ≤ b)))) w) : WL P n ops (⟨some d, .binOp .leq t x y ty', ty, pos, aft, none⟩ :: rest) Q f w :=
  o_val rfl rfl hb (by simp [execOp, hx, hy, go_sem]) h
theorem o_gtr {k : IntKind} {a b : Int} (hx : ev f x = .int k a) (hy : ev f y = .int k b)  (hb : Nat.blt d n = true) (h : WL P n ops rest Q (upd f d (.bool (decide (b < a)))) w) : WL P n ops (⟨some d, .binOp .gtr t x y ty', ty, pos, aft, none⟩ :: rest) Q f w :=
  o_val rfl rfl hb (by simp [execOp, hx, hy, go_sem]) h
theorem o_geq {k : IntKind} {a b : Int} (hx : ev f x = .int k a) (hy : ev f y = .int k b)  (hb : Nat.blt d n = true) (h : WL P n ops rest Q (upd f d (.bool (decide (b ≤ a)))) w) : WL P n ops (⟨some d, .binOp .geq t x y ty', ty, pos, aft, none⟩ :: rest) Q f w :=
  o_val rfl rfl hb (by simp [execOp, hx, hy, go_sem]) h
theorem o_not {b : Bool} (hx : ev f x = .bool b) (hb : Nat.blt d n = true) (h : WL P n ops rest Q (upd f d (.bool !b)) w) : WL P n ops (⟨some d, .unOp .not t x, ty, pos, aft, none⟩ :: rest) Q f w :=
  o_val rfl rfl hb (by simp [execOp, hx, go_sem]) h
theorem o_not_t (hx : ev f x = .bool true) (hb : Nat.blt d n = true) (h : WL P n ops rest Q (upd f d (.bool false)) w) : WL P n ops (⟨some d, .unOp .not t x, ty, pos, aft, none⟩ :: rest) Q f w := o_not hx hb h
theorem o_not_f (hx : ev f x = .bool false) (hb : Nat.blt d n = true) (h : WL P n ops rest Q (upd f d (.bool true)) w) : WL P n ops (⟨some d, .unOp .not t x, ty, pos, aft, none⟩ :: rest) Q f w := o_not hx hb h
theorem o_not_d {p : Prop} {dp : Decidable p} (hx : ev f x = .bool (decide p)) (hb : Nat.blt d n = true) (h : WL P n ops rest Q (upd f d (.bool (decide (¬ p)))) w) : WL P n ops (⟨some d, .unOp .not t x, ty, pos, aft, none⟩ :: rest) Q f w := o_not hx hb (by simpa using h)
theorem o_conv {k k' : IntKind} {a : Int} {t' : TypeId} [hs : IntT P t k'] [hd : IntT P t' k] {k2 : IntKind} (hx : ev f x = .int k2 a) (hb : Nat.blt d n = true) (h : WL P n ops rest Q (upd f d (.int k (k.wrap a))) w) : WL P n ops (⟨some d, .convert t t' x, ty, pos, aft, none⟩ :: rest) Q f w :=
  o_val rfl rfl hb (by
    have h1 : P.underlying t = some (.int k') := hs.out
    have h2 : P.underlying t' = some (.int k) := hd.out
    simp [execOp, hx, go_sem, h1, h2]) h
theorem o_box_i {k : IntKind} {a : Int} {w0 : World} {fp : List Nat} {L : Mem} (hp : Hp w0 fp w L) (hx : ev f x = .int k a) (hb : Nat.blt d n = true) (h : ∀ g w', Hp w0 fp w' (L ++ [(g, C t [.int k a])]) → WL P n ops rest Q (upd f d (.pointer (some ⟨g, 0, none⟩))) w') : WL P n ops (⟨some d, .box t x, ty, pos, aft, none⟩ :: rest) Q f w :=
  o_val rfl rfl hb (w' := w.alloc (C t [.int k a])) (by simp [execOp, Instr.box, newVar, newRow, hx, Value.cells, go_sem, C]) (h _ _ (hp.alloc _))
theorem o_box_b {b : Bool} {w0 : World} {fp : List Nat} {L : Mem} (hp : Hp w0 fp w L) (hx : ev f x = .bool b) (hb : Nat.blt d n = true) (h : ∀ g w', Hp w0 fp w' (L ++ [(g, C t [.bool b])]) → WL P n ops rest Q (upd f d (.pointer (some ⟨g, 0, none⟩))) w') : WL P n ops (⟨some d, .box t x, ty, pos, aft, none⟩ :: rest) Q f w :=
  o_val rfl rfl hb (w' := w.alloc (C t [.bool b])) (by simp [execOp, Instr.box, newVar, newRow, hx, Value.cells, go_sem, C]) (h _ _ (hp.alloc _))
theorem o_box_sl {p : Option Addr} {m c : Nat} {w0 : World} {fp : List Nat} {L : Mem} (hp : Hp w0 fp w L) (hx : ev f x = .slice p m c) (hb : Nat.blt d n = true) (h : ∀ g w', Hp w0 fp w' (L ++ [(g, C t [.slice p m c])]) → WL P n ops rest Q (upd f d (.pointer (some ⟨g, 0, none⟩))) w') : WL P n ops (⟨some d, .box t x, ty, pos, aft, none⟩ :: rest) Q f w :=
  o_val rfl rfl hb (w' := w.alloc (C t [.slice p m c])) (by simp [execOp, Instr.box, newVar, newRow, hx, Value.cells, go_sem, C]) (h _ _ (hp.alloc _))
theorem o_box_ag {cs : List Value} {w0 : World} {fp : List Nat} {L : Mem} (hp : Hp w0 fp w L) (hx : ev f x = .agg cs.toArray) (hb : Nat.blt d n = true) (h : ∀ g w', Hp w0 fp w' (L ++ [(g, C t cs)]) → WL P n ops rest Q (upd f d (.pointer (some ⟨g, 0, none⟩))) w') : WL P n ops (⟨some d, .box t x, ty, pos, aft, none⟩ :: rest) Q f w :=
  o_val rfl rfl hb (w' := w.alloc (C t cs)) (by simp [execOp, Instr.box, newVar, newRow, hx, Value.cells, go_sem, C]) (h _ _ (hp.alloc _))
theorem o_alloc {z : List Value} [hz : Zr P t z] {w0 : World} {fp : List Nat} {L : Mem} (hp : Hp w0 fp w L) (hb : Nat.blt d n = true) (h : ∀ g w', Hp w0 fp w' (L ++ [(g, C t z)]) → WL P n ops rest Q (upd f d (.pointer (some ⟨g, 0, none⟩))) w') : WL P n ops (⟨some d, .alloc t, ty, pos, aft, none⟩ :: rest) Q f w :=
  o_val rfl rfl hb (w' := w.alloc (C t z)) (by
    have h1 := hz.out
    cases hi : P.info? t with
    | none => rw [hi] at h1; cases h1
    | some i =>
      cases hz : i.zero with
      | none => rw [hi] at h1; simp [hz] at h1
      | some v =>
        rw [hi] at h1
        simp [hz] at h1
        have h2 : v.cells = z.toArray := by rw [← h1]
        simp [execOp, Instr.alloc, newVar, newRow, zeroValue, typeInfo, hi, hz, C, h2]) (h _ _ (hp.alloc _))
theorem run_isAgg_no [hs : Sc P t] (w : World) : (isAgg t).run P w = .ok false w := by
  have h1 := hs.out
  cases hu : P.underlying t with
  | none => rw [hu] at h1; cases h1
  | some d =>
    rw [hu] at h1
    unfold isAgg
    rw [Sem.run_bind, run_underlying hu w]
    cases d <;> simp_all
theorem run_isAgg_yes [hs : Ag P t] (w : World) : (isAgg t).run P w = .ok true w := by
  have h1 := hs.out
  cases hu : P.underlying t with
  | none => rw [hu] at h1; cases h1
  | some d =>
    rw [hu] at h1
    unfold isAgg
    rw [Sem.run_bind, run_underlying hu w]
    cases d <;> simp_all
theorem run_sizeOf {s : Nat} [hs : Sz P t s] (w : World) : (sizeOf t).run P w = .ok s w := by
  have h1 := hs.out
  cases hi : P.info? t with
  | none => rw [hi] at h1; cases h1
  | some i => rw [hi] at h1; simp at h1; simp [sizeOf, typeInfo, hi, h1]
/-- a load of one cell out of a known block. -/
theorem o_load1 {w0 : World} {fp : List Nat} {L : Mem} {g k i : Nat} {tb : TypeId} {cs : List Value} (hp : Hp w0 fp w L) (hs : Sc P t) (hx : ev f x = .pointer (some ⟨g, k, none⟩)) (hi : L[i]? = some (g, C tb cs)) (hv : cs[k]? = some v) (hb : Nat.blt d n = true) (h : WL P n ops rest Q (upd f d v) w) : WL P n ops (⟨some d, .load t x, ty, pos, aft, none⟩ :: rest) Q f w :=
  o_val rfl rfl hb (by
    have hc : w.cell? ⟨g, k, none⟩ = some v := (hp.cell hi k).trans hv
    simp [execOp, Instr.loadAt, Instr.sureAddr, loadVar, hx, run_isAgg_no, hc, go_sem]) h
/-- a load of one cell that was there before. -/
theorem o_load_old {w0 : World} {L : Mem} {a : Addr} (hp : Hp w0 [] w L) (hs : Sc P t) (hx : ev f x = .pointer (some a)) (hc : w0.cell? a = some v) (hb : Nat.blt d n = true) (h : WL P n ops rest Q (upd f d v) w) : WL P n ops (⟨some d, .load t x, ty, pos, aft, none⟩ :: rest) Q f w :=
  o_val rfl rfl hb (by
    have hc := hp.oldcell hc
    simp [execOp, Instr.loadAt, Instr.sureAddr, loadVar, hx, run_isAgg_no, hc, go_sem]) h
/-- a load of a struct or an array out of a known block. -/
theorem o_loadA {m : Nat} {w0 : World} {fp : List Nat} {L : Mem} {g k i : Nat} {tb : TypeId} {cs : List Value} (hp : Hp w0 fp w L) (hs : Ag P t) (hm : Sz P t m) (hx : ev f x = .pointer (some ⟨g, k, none⟩)) (hi : L[i]? = some (g, C tb cs)) (hl : Nat.ble (k + m) cs.length = true) (hb : Nat.blt d n = true) (h : WL P n ops rest Q (upd f d (.agg ((cs.drop k).take m).toArray)) w) : WL P n ops (⟨some d, .load t x, ty, pos, aft, none⟩ :: rest) Q f w :=
  o_val rfl rfl hb (by
    have hlen : k + m ≤ cs.length := by simpa using hl
    have hlc : (loadCells ⟨g, k, none⟩ ((cs.drop k).take m).length).run P w = .ok ((cs.drop k).take m).toArray w :=
      run_loadCells_list (P := P) w ⟨g, k, none⟩ _ (fun j v hv => by
        have hj : j < m := by
          have := (List.getElem?_eq_some_iff.1 hv).1
          simp at this; omega
        have hadd : (⟨g, k, none⟩ : Addr).add j = ⟨g, k + j, none⟩ := by unfold Addr.add; split <;> simp_all
        rw [hadd, hp.cell hi (k + j), ← hv, List.getElem?_take, if_pos hj, List.getElem?_drop])
    have e : ((cs.drop k).take m).length = m := by simp; omega
    rw [e] at hlc
    have hlv : (loadVar t ⟨g, k, none⟩).run P w = .ok (.agg ((cs.drop k).take m).toArray) w := by
      unfold loadVar
      simp [run_isAgg_yes, run_sizeOf, hlc]
    simp [execOp, Instr.loadAt, Instr.sureAddr, hx, hlv]) h
theorem o_loadW {m : Nat} {w0 : World} {fp : List Nat} {L : Mem} {g i : Nat} {tb : TypeId} {cs : List Value} (hp : Hp w0 fp w L) (hs : Ag P t) (hm : Sz P t m) (hx : ev f x = .pointer (some ⟨g, 0, none⟩)) (hi : L[i]? = some (g, C tb cs)) (hl : cs.length = m) (hb : Nat.blt d n = true) (h : WL P n ops rest Q (upd f d (.agg cs.toArray)) w) : WL P n ops (⟨some d, .load t x, ty, pos, aft, none⟩ :: rest) Q f w := by
  have e : (cs.drop 0).take m = cs := by simp [← hl]
  exact o_loadA hp hs hm hx hi (by simp [hl]) hb (by rw [e]; exact h)
theorem o_store1 {w0 : World} {fp : List Nat} {L : Mem} {g k i : Nat} {tb : TypeId} {cs : List Value} (hp : Hp w0 fp w L) (hs : Sz P t 1) (hx : ev f x = .pointer (some ⟨g, k, none⟩)) (hy : ev f y = v) (h1 : v.cells = #[v]) (h2 : v.oneCell' = true) (hi : L[i]? = some (g, C tb cs)) (hk : Nat.blt k cs.length = true) (h : ∀ w', Hp w0 fp w' (L.set i (g, C tb (cs.set k v))) → WL P n ops rest Q f w') : WL P n ops (⟨none, .store t x y, ty, pos, aft, none⟩ :: rest) Q f w :=
  o_skip rfl rfl (w' := w.setCell ⟨g, k, none⟩ v) (by
    have hlt : k < cs.length := by simpa using hk
    have hc : w.cell? ⟨g, k, none⟩ = some cs[k] := (hp.cell hi k).trans (by simp [hlt])
    have hf := hp.frozen hi k
    have hst : (store ⟨g, k, none⟩ v).run P w = .ok () (w.setCell ⟨g, k, none⟩ v) := by
      rw [run_store P w ⟨g, k, none⟩ v _ h2, hc]; simp [hf]
    have hadd : (⟨g, k, none⟩ : Addr).add 0 = ⟨g, k, none⟩ := by simp [Addr.add]
    have hsv : (storeVar t ⟨g, k, none⟩ v).run P w = .ok () (w.setCell ⟨g, k, none⟩ v) := by
      unfold storeVar
      simp [h1, run_sizeOf, storeCells, hadd, hst]
    simp [execOp, Instr.storeAt, Instr.sureAddr, hx, hy, hsv]) (h _ (hp.set_ hi k v))
/-- a call of a function that the source names. -/
class Cal (P : Program) (fid : FuncId) : Prop where out : ∀ (args : Array Value) (w : World), (callFunc fid args).run P w = .ok (.enter fid args) w
theorem cal_of {fid : FuncId} {fn : Func} (hf : P.funcs[fid]? = some fn) (hname : (fn.name == "runtime.NumGoroutine") = false) (hb : fn.body.isSome = true) : Cal P fid := ⟨fun args w => by
  have h1 : fn.name ≠ "runtime.NumGoroutine" := by simpa using hname
  obtain ⟨c, hc⟩ := Option.isSome_iff_exists.1 hb
  simp [callFunc, hf, h1, hc]⟩
abbrev Ret (P : Program) (fid : FuncId) (args : List Value) (w : World) (S : Value → World → Prop) : Prop := Calls P fid args.toArray w fun e w' => ∃ v, e = .returned v ∧ S v w'
theorem Ret.mono {fid : FuncId} {args : List Value} {S S' : Value → World → Prop} (h : Ret P fid args w S) (k : ∀ v w', S v w' → S' v w') : Ret P fid args w S' :=
  Calls.mono h fun e w' ⟨v, he, hs⟩ => ⟨v, he, k _ _ hs⟩
theorem o_call {fid : FuncId} {xl : List Operand} {al : List Value} {ats : Array TypeId} {S : Value → World → Prop} [hcl : Cal P fid] (hc : Ret P fid al w S) (hargs : xl.map (ev f) = al) (hb : Nat.blt d n = true) (h : ∀ v w', S v w' → WL P n ops rest Q (upd f d v) w') : WL P n ops (⟨some d, .call { callee := .value (.func fid), args := xl.toArray, argTypes := ats }, ty, pos, aft, none⟩ :: rest) Q f w :=
  o_enter rfl rfl hb (by
    have he := hcl.out al.toArray w
    unfold execOp
    simp [resolve, Deferred.ofValue, invoke, ev, hargs, he]) hc h
theorem o_call0 {fid : FuncId} {xl : List Operand} {al : List Value} {ats : Array TypeId} {S : Value → World → Prop} [hcl : Cal P fid] (hc : Ret P fid al w S) (hargs : xl.map (ev f) = al) (h : ∀ v w', S v w' → WL P n ops rest Q f w') : WL P n ops (⟨none, .call { callee := .value (.func fid), args := xl.toArray, argTypes := ats }, ty, pos, aft, none⟩ :: rest) Q f w :=
  o_enter0 rfl rfl (by
    have he := hcl.out al.toArray w
    unfold execOp
    simp [resolve, Deferred.ofValue, invoke, ev, hargs, he]) hc h
theorem enterR {fid : FuncId} {fn : Func} {c : Code} {args : List Value} {S : Value → World → Prop} {n : Nat} (hf : P.funcs[fid]? = some fn) (hb : fn.body = some c) (hn : fn.ntmps = n) (hargs : Nat.ble args.length n = true)
    (h : W P n c (post P fn (fun e w' => ∃ v, e = .returned v ∧ S v w')) (fr0 args) w) : Ret P fid args w S := calls_of_W hf hb hn hargs h

theorem i64_id {n : Int} (hlo : -9223372036854775808 ≤ n) (hhi : n ≤ 9223372036854775807) : IntKind.i64.wrap n = n := by
  rw [IntKind.wrap_i64]; omega
theorem w64_eq (n : Int) : IntKind.i64.wrap n = (n + 9223372036854775808) % 18446744073709551616 - 9223372036854775808 := by
  rw [IntKind.wrap_i64]
theorem upd_self (f : Fr) (t : Nat) : upd f t (f t) = f := by
  funext i
  by_cases e : i = t
  · subst e; rw [upd_same]
  · rw [upd_other f _ e]
theorem o_guard_y {j : Nat} {want : Bool} {dst : Option Tmp} {op : Op} {s : Tmp} (hj : (ops[j]?).bind (·.dst) = some s) (hs : f s = .bool want) (hd : dst.isSome = true) (h : WL P n ops (⟨dst, op, ty, pos, aft, none⟩ :: rest) Q f w) : WL P n ops (⟨dst, op, ty, pos, aft, some (j, want)⟩ :: rest) Q f w :=
  o_guard rfl hj hs (fun _ => h) (fun e => absurd rfl e) hd
theorem o_guard_n {j : Nat} {want b : Bool} {op : Op} {s : Tmp} (hj : (ops[j]?).bind (·.dst) = some s) (hs : f s = .bool b) (hne : Bool.xor b want = true) (hb : Nat.blt d n = true) (h : WL P n ops rest Q (upd f d undef) w) : WL P n ops (⟨some d, op, ty, pos, aft, some (j, want)⟩ :: rest) Q f w :=
  o_guard rfl hj hs (fun e => by subst e; simp at hne) (fun _ d' hd => by injection hd with hd; subst hd; exact ⟨hb, h⟩) rfl
theorem o_guard_u {j : Nat} {want : Bool} {op : Op} {s : Tmp} (hj : (ops[j]?).bind (·.dst) = some s) (hs : f s = undef) (hb : Nat.blt d n = true) (h : WL P n ops rest Q (upd f d undef) w) : WL P n ops (⟨some d, op, ty, pos, aft, some (j, want)⟩ :: rest) Q f w := fun a ha => by
  have hy : yielded ops a.tmps j = none := by
    have h0 : a.tmps.getD s undef = undef := (ha.2.2 s).trans hs
    unfold yielded
    rw [hj]
    simp only [Option.bind_some]
    rw [Array.getD_eq_getD_getElem?] at h0
    cases hh : a.tmps[s]? with
    | none => rfl
    | some x => rw [hh] at h0; simp at h0; subst h0; rfl
  unfold wpList
  rw [if_neg (by simp [Region.wanted, hy])]
  exact h _ (ha.put hb)
theorem o_guard_bt {j : Nat} {b : Bool} {op : Op} {s : Tmp} (hj : (ops[j]?).bind (·.dst) = some s) (hs : f s = .bool b) (hb : Nat.blt d n = true) (ht : b = true → WL P n ops (⟨some d, op, ty, pos, aft, none⟩ :: rest) Q (upd f s (.bool true)) w) (hf : b = false → WL P n ops rest Q (upd (upd f s (.bool false)) d undef) w) : WL P n ops (⟨some d, op, ty, pos, aft, some (j, true)⟩ :: rest) Q f w := by
  cases b
  · have := hf rfl; rw [← hs, upd_self] at this; exact o_guard_n hj hs rfl hb this
  · have := ht rfl; rw [← hs, upd_self] at this; exact o_guard_y hj hs rfl this
theorem o_guard_bf {j : Nat} {b : Bool} {op : Op} {s : Tmp} (hj : (ops[j]?).bind (·.dst) = some s) (hs : f s = .bool b) (hb : Nat.blt d n = true) (hf : b = false → WL P n ops (⟨some d, op, ty, pos, aft, none⟩ :: rest) Q (upd f s (.bool false)) w) (ht : b = true → WL P n ops rest Q (upd (upd f s (.bool true)) d undef) w) : WL P n ops (⟨some d, op, ty, pos, aft, some (j, false)⟩ :: rest) Q f w := by
  cases b
  · have := hf rfl; rw [← hs, upd_self] at this; exact o_guard_y hj hs rfl this
  · have := ht rfl; rw [← hs, upd_self] at this; exact o_guard_n hj hs rfl hb this
theorem o_guard_dt {j : Nat} {p : Prop} {dp : Decidable p} {op : Op} {s : Tmp} (hj : (ops[j]?).bind (·.dst) = some s) (hs : f s = .bool (decide p)) (hb : Nat.blt d n = true) (ht : p → WL P n ops (⟨some d, op, ty, pos, aft, none⟩ :: rest) Q (upd f s (.bool true)) w) (hf : ¬ p → WL P n ops rest Q (upd (upd f s (.bool false)) d undef) w) : WL P n ops (⟨some d, op, ty, pos, aft, some (j, true)⟩ :: rest) Q f w :=
  o_guard_bt hj hs hb (fun e => ht (of_decide_eq_true e)) (fun e => hf (of_decide_eq_false e))
theorem o_guard_df {j : Nat} {p : Prop} {dp : Decidable p} {op : Op} {s : Tmp} (hj : (ops[j]?).bind (·.dst) = some s) (hs : f s = .bool (decide p)) (hb : Nat.blt d n = true) (hf : ¬ p → WL P n ops (⟨some d, op, ty, pos, aft, none⟩ :: rest) Q (upd f s (.bool false)) w) (ht : p → WL P n ops rest Q (upd (upd f s (.bool true)) d undef) w) : WL P n ops (⟨some d, op, ty, pos, aft, some (j, false)⟩ :: rest) Q f w :=
  o_guard_bf hj hs hb (fun e => hf (of_decide_eq_false e)) (fun e => ht (of_decide_eq_true e))

theorem run_fo {s fld off : Nat} [hf : Fo P s fld off] (g k : Nat) (w : World) : (Instr.fieldAt s (.pointer (some ⟨g, k, none⟩)) fld).run P w = .ok (.pointer (some ⟨g, k + off, none⟩)) w := by
  have h1 := hf.out
  unfold fo at h1
  cases hu : P.underlying s with
  | none => rw [hu] at h1; cases h1
  | some dd =>
    rw [hu] at h1
    cases dd with
    | struct fs =>
      simp only at h1
      cases hfd : fs[fld]? with
      | none => rw [hfd] at h1; cases h1
      | some fd =>
        rw [hfd] at h1
        simp only at h1
        cases hi : P.info? fd.type with
        | none => rw [hi] at h1; cases h1
        | some i =>
          rw [hi] at h1
          simp only at h1
          by_cases hz : i.size = 0
          · rw [if_pos hz] at h1; cases h1
          · rw [if_neg hz] at h1
            injection h1 with h1
            have hadd : (⟨g, k, none⟩ : Addr).add off = ⟨g, k + off, none⟩ := by unfold Addr.add; split <;> simp_all
            simp [Instr.fieldAt, Instr.sureAddr, fieldPlace, run_underlying hu, hfd, sizeOf, typeInfo, hi, hz, h1, hadd]
    | _ => cases h1
theorem o_fieldAddr {s fld off g k : Nat} [hf : Fo P s fld off] (hx : ev f x = .pointer (some ⟨g, k, none⟩)) (hb : Nat.blt d n = true) (h : WL P n ops rest Q (upd f d (.pointer (some ⟨g, k + off, none⟩))) w) : WL P n ops (⟨some d, .fieldAddr s x fld, ty, pos, aft, none⟩ :: rest) Q f w :=
  o_val rfl rfl hb (by simp [execOp, hx, run_fo]) h
theorem run_storeA {m : Nat} [hm : Sz P t m] {w0 : World} {fp : List Nat} {L : Mem} {g k i : Nat} {tb : TypeId} {cs vs : List Value} (hp : Hp w0 fp w L) (hl : vs.length = m) (h1 : vs.all (·.oneCell') = true) (hi : L[i]? = some (g, C tb cs)) (hk : Nat.ble (k + m) cs.length = true) :
    ∃ w', (storeVar t ⟨g, k, none⟩ (.agg vs.toArray)).run P w = .ok () w' ∧ Hp w0 fp w' (L.set i (g, C tb (cs.take k ++ vs ++ cs.drop (k + m)))) := by
  have hle : k + m ≤ cs.length := by simpa using hk
  have hst := run_storeCells_at P g k tb vs 0 cs.toArray w (hp.at_ hi) (by simp; omega) (by simpa using h1)
  refine ⟨w.setRow g (cs.take k ++ vs ++ cs.drop (k + m)).toArray, ?_, ?_⟩
  · unfold storeVar
    simp [Value.cells, run_sizeOf, hl]
    simpa [hl] using hst
  · refine hp.change hi rfl rfl rfl (by simp) ?_ (fun j _ hj => setRow_other _ _ _ _ hj)
    have := setRow_heap w g cs.toArray (cs.take k ++ vs ++ cs.drop (k + m)).toArray tb (0, 0) (hp.at_ hi)
    simpa [hl] using this
theorem o_storeA {m : Nat} [hm : Sz P t m] {w0 : World} {fp : List Nat} {L : Mem} {g k i : Nat} {tb : TypeId} {cs vs : List Value} (hp : Hp w0 fp w L) (hx : ev f x = .pointer (some ⟨g, k, none⟩)) (hy : ev f y = .agg vs.toArray) (hl : vs.length = m) (h1 : vs.all (·.oneCell') = true) (hi : L[i]? = some (g, C tb cs)) (hk : Nat.ble (k + m) cs.length = true) (h : ∀ w', Hp w0 fp w' (L.set i (g, C tb (cs.take k ++ vs ++ cs.drop (k + m)))) → WL P n ops rest Q f w') : WL P n ops (⟨none, .store t x y, ty, pos, aft, none⟩ :: rest) Q f w := by
  obtain ⟨w', hr, hp'⟩ := run_storeA (P := P) (t := t) hp hl h1 hi hk
  exact o_skip rfl rfl (w' := w') (by simp [execOp, Instr.storeAt, Instr.sureAddr, hx, hy, hr]) (h w' hp')
theorem o_storeW {m : Nat} [hm : Sz P t m] {w0 : World} {fp : List Nat} {L : Mem} {g i : Nat} {tb : TypeId} {cs vs : List Value} (hp : Hp w0 fp w L) (hx : ev f x = .pointer (some ⟨g, 0, none⟩)) (hy : ev f y = .agg vs.toArray) (hl : vs.length = m) (h1 : vs.all (·.oneCell') = true) (hi : L[i]? = some (g, C tb cs)) (hk : cs.length = m) (h : ∀ w', Hp w0 fp w' (L.set i (g, C tb vs)) → WL P n ops rest Q f w') : WL P n ops (⟨none, .store t x y, ty, pos, aft, none⟩ :: rest) Q f w :=
  o_storeA hp hx hy hl h1 hi (by simp [hk]) (by
    have e : cs.take 0 ++ vs ++ cs.drop (0 + m) = vs := by simp [← hk]
    rw [e]; exact h)
def cellsL : Value → List Value
  | .agg cs => cs.toList
  | .int k n => [.int k n]
  | .bool b => [.bool b]
  | .string s => [.string s]
  | .pointer p => [.pointer p]
  | .slice a b c => [.slice a b c]
  | .map r => [.map r]
  | .func x y z => [.func x y z]
  | .nilFunc => [.nilFunc]
  | .iface t v => [.iface t v]
  | .nilIface => [.nilIface]
  | .chan r => [.chan r]
  | .float k b => [.float k b]
  | .complex k b c => [.complex k b c]
  | .tuple vs => [.tuple vs]
theorem cellsL_eq (v : Value) : cellsL v = v.cells.toList := by cases v <;> rfl
def fillL (ps : List (Nat × Nat)) (z : List Value) : List (Nat × Value) → Option (List Value)
  | [] => some z
  | (i, v) :: rest =>
    match ps[i]? with
    | none => none
    | some (off, size) => bif Nat.beq (cellsL v).length size && Nat.ble (off + (cellsL v).length) z.length then fillL ps (z.take off ++ cellsL v ++ z.drop (off + (cellsL v).length)) rest else none
theorem foldl_fill (off : Nat) (vs : List Value) : ∀ (j : Nat) (cs : Array Value), off + j + vs.length ≤ cs.size →
    ((vs.zipIdx j).foldl (fun cs (x : Value × Nat) => cs.setIfInBounds (off + x.2) x.1) cs).toList = cs.toList.take (off + j) ++ vs ++ cs.toList.drop (off + j + vs.length) := by
  induction vs with
  | nil => intro j cs _; simp
  | cons v vs ih =>
    intro j cs hl
    simp only [List.length_cons] at hl
    rw [List.zipIdx_cons, List.foldl_cons, ih (j + 1) _ (by simp; omega)]
    have e := list_seg_step cs.toList (off + j) v vs (by simp; omega)
    simpa [Array.toList_setIfInBounds, Nat.add_assoc] using e
theorem fill_of (ps : List (Nat × Nat)) : ∀ (parts : List (Nat × Value)) (z cs : List Value), fillL ps z parts = some cs → Instr.fill (ps.toArray[·]?) z.toArray parts = some cs.toArray
  | [], z, cs, h => by simp [fillL] at h; subst h; rfl
  | (i, v) :: rest, z, cs, h => by
    unfold fillL at h
    simp only [cellsL_eq] at h
    unfold Instr.fill
    simp only [List.getElem?_toArray]
    cases hp : ps[i]? with
    | none => rw [hp] at h; cases h
    | some q =>
      obtain ⟨off, size⟩ := q
      rw [hp] at h
      simp only at h ⊢
      cases hb : (Nat.beq v.cells.toList.length size && Nat.ble (off + v.cells.toList.length) z.length) with
      | false => rw [hb] at h; cases h
      | true =>
        rw [hb] at h
        simp only [cond_true] at h
        simp only [Bool.and_eq_true] at hb
        have h1 : v.cells.toList.length = size := Nat.eq_of_beq_eq_true hb.1
        have h2 : off + v.cells.toList.length ≤ z.length := by simpa using hb.2
        rw [if_neg (by simp at h1 h2 ⊢; omega)]
        have ih := fill_of ps rest _ cs h
        have e : (v.cells.zipIdx.foldl (fun cs (x : Value × Nat) => cs.setIfInBounds (off + x.2) x.1) z.toArray) = (z.take off ++ v.cells.toList ++ z.drop (off + v.cells.toList.length)).toArray := by
          have := foldl_fill off v.cells.toList 0 z.toArray (by simpa using h2)
          apply Array.toList_inj.1
          rw [← Array.foldl_toList, Array.toList_zipIdx]
          simpa using this
        have e2 : (fun x : Nat => ps[x]?) = fun x : Nat => ps.toArray[x]? := by funext x; simp
        rw [← ih, ← e, e2]
theorem o_build {z : List Value} {ps : List (Nat × Nat)} [hz : Zr P t z] [hps : Pl P t ps] {pl : List (Nat × Operand)} {cs : List Value} (hc : fillL ps z (pl.map fun p => (p.1, ev f p.2)) = some cs) (hb : Nat.blt d n = true) (h : WL P n ops rest Q (upd f d (.agg cs.toArray)) w) : WL P n ops (⟨some d, .build t pl.toArray, ty, pos, aft, none⟩ :: rest) Q f w :=
  o_val rfl rfl hb (by
    have hbuilt : P.built t (pl.map fun p => (p.1, ev f p.2)) = some cs.toArray := by
      have h1 := hz.out
      have h2 := hps.out
      unfold places at h2
      unfold Program.built
      cases hi : P.info? t with
      | none => rw [hi] at h1; cases h1
      | some i =>
        rw [hi] at h1
        simp only [Option.bind_some] at h1
        cases hzz : i.zero with
        | none => rw [hzz] at h1; cases h1
        | some v =>
          rw [hzz] at h1
          simp only [Option.map_some, Option.some.injEq] at h1
          cases hu : P.underlying t with
          | none => rw [hu] at h2; cases h2
          | some dd =>
            rw [hu] at h2
            cases dd with
            | struct fs =>
              simp only at h2 ⊢
              rw [hzz, h2]
              simp only
              have := fill_of ps _ z cs hc
              rw [← this, ← h1]
            | _ => cases h2
    have hr := run_build (P := P) w t (pl.toArray.map fun (i, x) => (i, ev f x)) cs.toArray (by simpa using hbuilt)
    simp only [execOp]
    rw [Sem.run_bind, hr]
    rfl) h

theorem o_build0 {z : List Value} {ps : List (Nat × Nat)} [hz : Zr P t z] [hps : Pl P t ps] {pl : List (Nat × Operand)}  (hc : fillL ps z (pl.map fun p => (p.1, ev f p.2)) = some []) (hb : Nat.blt d n = true) (h : WL P n ops rest Q (upd f d (.agg #[])) w) : WL P n ops (⟨some d, .build t pl.toArray, ty, pos, aft, none⟩ :: rest) Q f w := o_build hc hb h
theorem o_build1 {z : List Value} {ps : List (Nat × Nat)} [hz : Zr P t z] [hps : Pl P t ps] {pl : List (Nat × Operand)} {v0 : Value} (hc : fillL ps z (pl.map fun p => (p.1, ev f p.2)) = some [v0]) (hb : Nat.blt d n = true) (h : WL P n ops rest Q (upd f d (.agg #[v0])) w) : WL P n ops (⟨some d, .build t pl.toArray, ty, pos, aft, none⟩ :: rest) Q f w := o_build hc hb h
theorem o_build2 {z : List Value} {ps : List (Nat × Nat)} [hz : Zr P t z] [hps : Pl P t ps] {pl : List (Nat × Operand)} {v0 v1 : Value} (hc : fillL ps z (pl.map fun p => (p.1, ev f p.2)) = some [v0, v1]) (hb : Nat.blt d n = true) (h : WL P n ops rest Q (upd f d (.agg #[v0, v1])) w) : WL P n ops (⟨some d, .build t pl.toArray, ty, pos, aft, none⟩ :: rest) Q f w := o_build hc hb h
theorem o_build3 {z : List Value} {ps : List (Nat × Nat)} [hz : Zr P t z] [hps : Pl P t ps] {pl : List (Nat × Operand)} {v0 v1 v2 : Value} (hc : fillL ps z (pl.map fun p => (p.1, ev f p.2)) = some [v0, v1, v2]) (hb : Nat.blt d n = true) (h : WL P n ops rest Q (upd f d (.agg #[v0, v1, v2])) w) : WL P n ops (⟨some d, .build t pl.toArray, ty, pos, aft, none⟩ :: rest) Q f w := o_build hc hb h
theorem o_build4 {z : List Value} {ps : List (Nat × Nat)} [hz : Zr P t z] [hps : Pl P t ps] {pl : List (Nat × Operand)} {v0 v1 v2 v3 : Value} (hc : fillL ps z (pl.map fun p => (p.1, ev f p.2)) = some [v0, v1, v2, v3]) (hb : Nat.blt d n = true) (h : WL P n ops rest Q (upd f d (.agg #[v0, v1, v2, v3])) w) : WL P n ops (⟨some d, .build t pl.toArray, ty, pos, aft, none⟩ :: rest) Q f w := o_build hc hb h
theorem o_build5 {z : List Value} {ps : List (Nat × Nat)} [hz : Zr P t z] [hps : Pl P t ps] {pl : List (Nat × Operand)} {v0 v1 v2 v3 v4 : Value} (hc : fillL ps z (pl.map fun p => (p.1, ev f p.2)) = some [v0, v1, v2, v3, v4]) (hb : Nat.blt d n = true) (h : WL P n ops rest Q (upd f d (.agg #[v0, v1, v2, v3, v4])) w) : WL P n ops (⟨some d, .build t pl.toArray, ty, pos, aft, none⟩ :: rest) Q f w := o_build hc hb h
theorem o_build6 {z : List Value} {ps : List (Nat × Nat)} [hz : Zr P t z] [hps : Pl P t ps] {pl : List (Nat × Operand)} {v0 v1 v2 v3 v4 v5 : Value} (hc : fillL ps z (pl.map fun p => (p.1, ev f p.2)) = some [v0, v1, v2, v3, v4, v5]) (hb : Nat.blt d n = true) (h : WL P n ops rest Q (upd f d (.agg #[v0, v1, v2, v3, v4, v5])) w) : WL P n ops (⟨some d, .build t pl.toArray, ty, pos, aft, none⟩ :: rest) Q f w := o_build hc hb h
theorem o_build7 {z : List Value} {ps : List (Nat × Nat)} [hz : Zr P t z] [hps : Pl P t ps] {pl : List (Nat × Operand)} {v0 v1 v2 v3 v4 v5 v6 : Value} (hc : fillL ps z (pl.map fun p => (p.1, ev f p.2)) = some [v0, v1, v2, v3, v4, v5, v6]) (hb : Nat.blt d n = true) (h : WL P n ops rest Q (upd f d (.agg #[v0, v1, v2, v3, v4, v5, v6])) w) : WL P n ops (⟨some d, .build t pl.toArray, ty, pos, aft, none⟩ :: rest) Q f w := o_build hc hb h
theorem o_build8 {z : List Value} {ps : List (Nat × Nat)} [hz : Zr P t z] [hps : Pl P t ps] {pl : List (Nat × Operand)} {v0 v1 v2 v3 v4 v5 v6 v7 : Value} (hc : fillL ps z (pl.map fun p => (p.1, ev f p.2)) = some [v0, v1, v2, v3, v4, v5, v6, v7]) (hb : Nat.blt d n = true) (h : WL P n ops rest Q (upd f d (.agg #[v0, v1, v2, v3, v4, v5, v6, v7])) w) : WL P n ops (⟨some d, .build t pl.toArray, ty, pos, aft, none⟩ :: rest) Q f w := o_build hc hb h
theorem o_build9 {z : List Value} {ps : List (Nat × Nat)} [hz : Zr P t z] [hps : Pl P t ps] {pl : List (Nat × Operand)} {v0 v1 v2 v3 v4 v5 v6 v7 v8 : Value} (hc : fillL ps z (pl.map fun p => (p.1, ev f p.2)) = some [v0, v1, v2, v3, v4, v5, v6, v7, v8]) (hb : Nat.blt d n = true) (h : WL P n ops rest Q (upd f d (.agg #[v0, v1, v2, v3, v4, v5, v6, v7, v8])) w) : WL P n ops (⟨some d, .build t pl.toArray, ty, pos, aft, none⟩ :: rest) Q f w := o_build hc hb h
theorem o_build10 {z : List Value} {ps : List (Nat × Nat)} [hz : Zr P t z] [hps : Pl P t ps] {pl : List (Nat × Operand)} {v0 v1 v2 v3 v4 v5 v6 v7 v8 v9 : Value} (hc : fillL ps z (pl.map fun p => (p.1, ev f p.2)) = some [v0, v1, v2, v3, v4, v5, v6, v7, v8, v9]) (hb : Nat.blt d n = true) (h : WL P n ops rest Q (upd f d (.agg #[v0, v1, v2, v3, v4, v5, v6, v7, v8, v9])) w) : WL P n ops (⟨some d, .build t pl.toArray, ty, pos, aft, none⟩ :: rest) Q f w := o_build hc hb h
theorem o_build11 {z : List Value} {ps : List (Nat × Nat)} [hz : Zr P t z] [hps : Pl P t ps] {pl : List (Nat × Operand)} {v0 v1 v2 v3 v4 v5 v6 v7 v8 v9 v10 : Value} (hc : fillL ps z (pl.map fun p => (p.1, ev f p.2)) = some [v0, v1, v2, v3, v4, v5, v6, v7, v8, v9, v10]) (hb : Nat.blt d n = true) (h : WL P n ops rest Q (upd f d (.agg #[v0, v1, v2, v3, v4, v5, v6, v7, v8, v9, v10])) w) : WL P n ops (⟨some d, .build t pl.toArray, ty, pos, aft, none⟩ :: rest) Q f w := o_build hc hb h
theorem o_build12 {z : List Value} {ps : List (Nat × Nat)} [hz : Zr P t z] [hps : Pl P t ps] {pl : List (Nat × Operand)} {v0 v1 v2 v3 v4 v5 v6 v7 v8 v9 v10 v11 : Value} (hc : fillL ps z (pl.map fun p => (p.1, ev f p.2)) = some [v0, v1, v2, v3, v4, v5, v6, v7, v8, v9, v10, v11]) (hb : Nat.blt d n = true) (h : WL P n ops rest Q (upd f d (.agg #[v0, v1, v2, v3, v4, v5, v6, v7, v8, v9, v10, v11])) w) : WL P n ops (⟨some d, .build t pl.toArray, ty, pos, aft, none⟩ :: rest) Q f w := o_build hc hb h
theorem o_min {k : IntKind} {a b : Int} {ats : Array TypeId} (hx : ev f x = .int k a) (hy : ev f y = .int k b) (hb : Nat.blt d n = true) (h : WL P n ops rest Q (upd f d (.int k (if b < a then b else a))) w) : WL P n ops (⟨some d, .call { callee := .builtin .min, args := #[x, y], argTypes := ats }, ty, pos, aft, none⟩ :: rest) Q f w :=
  o_val rfl rfl hb (by simp [execOp, resolve, invoke, hx, hy, go_sem]) h
theorem o_max {k : IntKind} {a b : Int} {ats : Array TypeId} (hx : ev f x = .int k a) (hy : ev f y = .int k b) (hb : Nat.blt d n = true) (h : WL P n ops rest Q (upd f d (.int k (if a < b then b else a))) w) : WL P n ops (⟨some d, .call { callee := .builtin .max, args := #[x, y], argTypes := ats }, ty, pos, aft, none⟩ :: rest) Q f w :=
  o_val rfl rfl hb (by simp [execOp, resolve, invoke, hx, hy, go_sem]) h
/-- two structs that are compared: what the comparison gives is a closed fact of the type. -/
def EqF (P : Program) (t : TypeId) (xs ys : Array Value) (b : Bool) : Prop := (∀ (x y : Operand) (w : World), (eqGuard .eql t x y (.agg xs) (.agg ys)).run P w = .ok () w ∧ (eqGuard .neq t x y (.agg xs) (.agg ys)).run P w = .ok () w) ∧ ∀ w : World, (binOp .eql t (.agg xs) (.agg ys)).run P w = .ok (.bool b) w ∧ (binOp .neq t (.agg xs) (.agg ys)).run P w = .ok (.bool !b) w
theorem o_eqs {xs ys : Array Value} {p : Prop} {dp : Decidable p} (he : EqF P t xs ys (decide p)) (hx : ev f x = .agg xs) (hy : ev f y = .agg ys) (hb : Nat.blt d n = true) (h : WL P n ops rest Q (upd f d (.bool (decide p))) w) : WL P n ops (⟨some d, .binOp .eql t x y ty', ty, pos, aft, none⟩ :: rest) Q f w :=
  o_val rfl rfl hb (by simp [execOp, hx, hy, (he.1 x y w).1, (he.2 w).1]) h
theorem o_nes {xs ys : Array Value} {p : Prop} {dp : Decidable p} (he : EqF P t xs ys (decide p)) (hx : ev f x = .agg xs) (hy : ev f y = .agg ys) (hb : Nat.blt d n = true) (h : WL P n ops rest Q (upd f d (.bool (decide (¬ p)))) w) : WL P n ops (⟨some d, .binOp .neq t x y ty', ty, pos, aft, none⟩ :: rest) Q f w :=
  o_val rfl rfl hb (by simp [execOp, hx, hy, (he.1 x y w).2, (he.2 w).2]) h

/-- results in memory. -/
theorem res_load {m : Nat} {t : TypeId} [hs : Ag P t] [hm : Sz P t m] {w0 : World} {fp : List Nat} {L : Mem} {g i : Nat} {tb : TypeId} {cs : List Value} (hp : Hp w0 fp w L) (hi : L[i]? = some (g, C tb cs)) (hl : cs.length = m) : (loadVar t ⟨g, 0, none⟩).run P w = .ok (.agg cs.toArray) w := by
  have hlc : (loadCells ⟨g, 0, none⟩ cs.length).run P w = .ok cs.toArray w :=
    run_loadCells_list (P := P) w ⟨g, 0, none⟩ _ (fun j v hv => by
      have hadd : (⟨g, 0, none⟩ : Addr).add j = ⟨g, j, none⟩ := by unfold Addr.add; split <;> simp_all
      rw [hadd, hp.cell hi j]; exact hv)
  unfold loadVar
  rw [hl] at hlc
  simp [run_isAgg_yes, run_sizeOf, hlc]
section
variable {fn : Func} {R : Ending → World → Prop} {p q r s : Tmp} {t1 t2 : TypeId} {w0 : World} {fp : List Nat} {L : Mem}
theorem r_t {v : Value} (h : fn.results = #[.tmp p]) (hv : f p = v) (hR : R (.returned v) w) : post P fn R .ret f w := by subst hv; exact ret1 h hR
theorem r_tt {v v2 : Value} (h : fn.results = #[.tmp p, .tmp q]) (hv : f p = v) (hv2 : f q = v2) (hR : R (.returned (.tuple #[v, v2])) w) : post P fn R .ret f w := by subst hv hv2; exact ret2 h hR
theorem r_ttt {v v2 v3 : Value} (h : fn.results = #[.tmp p, .tmp q, .tmp r]) (hv : f p = v) (hv2 : f q = v2) (hv3 : f r = v3) (hR : R (.returned (.tuple #[v, v2, v3])) w) : post P fn R .ret f w := by subst hv hv2 hv3; exact ret3 h hR
theorem r_c {m g i : Nat} {tb : TypeId} {cs : List Value} (hp : Hp w0 fp w L) (h : fn.results = #[.cell p t1]) (ha : Ag P t1) (hm : Sz P t1 m) (hx : f p = .pointer (some ⟨g, 0, none⟩)) (hi : L[i]? = some (g, C tb cs)) (hl : cs.length = m) (hR : R (.returned (.agg cs.toArray)) w) : post P fn R .ret f w :=
  ⟨_, fun a ha => by
    have h1 : a.tmps.getD p undef = .pointer (some ⟨g, 0, none⟩) := (ha p).trans hx
    simp only [Array.getD_eq_getD_getElem?] at h1
    simp [results, h, h1, asAddr, res_load hp hi hl], hR⟩
theorem r_ct {m g i : Nat} {tb : TypeId} {cs : List Value} {v : Value} (hp : Hp w0 fp w L) (h : fn.results = #[.cell p t1, .tmp q]) (ha : Ag P t1) (hm : Sz P t1 m) (hx : f p = .pointer (some ⟨g, 0, none⟩)) (hi : L[i]? = some (g, C tb cs)) (hl : cs.length = m) (hv : f q = v) (hR : R (.returned (.tuple #[.agg cs.toArray, v])) w) : post P fn R .ret f w :=
  ⟨_, fun a ha => by
    have h1 : a.tmps.getD p undef = .pointer (some ⟨g, 0, none⟩) := (ha p).trans hx
    have h2 : a.tmps.getD q undef = v := (ha q).trans hv
    simp only [Array.getD_eq_getD_getElem?] at h1 h2
    simp [results, h, h1, h2, asAddr, res_load hp hi hl], hR⟩
theorem r_ctt {m g i : Nat} {tb : TypeId} {cs : List Value} {v v2 : Value} (hp : Hp w0 fp w L) (h : fn.results = #[.cell p t1, .tmp q, .tmp r]) (ha : Ag P t1) (hm : Sz P t1 m) (hx : f p = .pointer (some ⟨g, 0, none⟩)) (hi : L[i]? = some (g, C tb cs)) (hl : cs.length = m) (hv : f q = v) (hv2 : f r = v2) (hR : R (.returned (.tuple #[.agg cs.toArray, v, v2])) w) : post P fn R .ret f w :=
  ⟨_, fun a ha => by
    have h1 : a.tmps.getD p undef = .pointer (some ⟨g, 0, none⟩) := (ha p).trans hx
    have h2 : a.tmps.getD q undef = v := (ha q).trans hv
    have h3 : a.tmps.getD r undef = v2 := (ha r).trans hv2
    simp only [Array.getD_eq_getD_getElem?] at h1 h2 h3
    simp [results, h, h1, h2, h3, asAddr, res_load hp hi hl], hR⟩
theorem r_tc {m g i : Nat} {tb : TypeId} {cs : List Value} {v : Value} (hp : Hp w0 fp w L) (h : fn.results = #[.tmp q, .cell p t1]) (ha : Ag P t1) (hm : Sz P t1 m) (hx : f p = .pointer (some ⟨g, 0, none⟩)) (hi : L[i]? = some (g, C tb cs)) (hl : cs.length = m) (hv : f q = v) (hR : R (.returned (.tuple #[v, .agg cs.toArray])) w) : post P fn R .ret f w :=
  ⟨_, fun a ha => by
    have h1 : a.tmps.getD p undef = .pointer (some ⟨g, 0, none⟩) := (ha p).trans hx
    have h2 : a.tmps.getD q undef = v := (ha q).trans hv
    simp only [Array.getD_eq_getD_getElem?] at h1 h2
    simp [results, h, h1, h2, asAddr, res_load hp hi hl], hR⟩
end

theorem o_store_i {k0 : IntKind} {a : Int} {w0 : World} {fp : List Nat} {L : Mem} {g k i : Nat} {tb : TypeId} {cs : List Value} (hp : Hp w0 fp w L) (hs : Sz P t 1) (hx : ev f x = .pointer (some ⟨g, k, none⟩)) (hy : ev f y = .int k0 a) (hi : L[i]? = some (g, C tb cs)) (hk : Nat.blt k cs.length = true) (h : ∀ w', Hp w0 fp w' (L.set i (g, C tb (cs.set k (.int k0 a)))) → WL P n ops rest Q f w') : WL P n ops (⟨none, .store t x y, ty, pos, aft, none⟩ :: rest) Q f w :=
  o_store1 hp hs hx hy rfl rfl hi hk h
theorem o_store_b {b : Bool} {w0 : World} {fp : List Nat} {L : Mem} {g k i : Nat} {tb : TypeId} {cs : List Value} (hp : Hp w0 fp w L) (hs : Sz P t 1) (hx : ev f x = .pointer (some ⟨g, k, none⟩)) (hy : ev f y = .bool b) (hi : L[i]? = some (g, C tb cs)) (hk : Nat.blt k cs.length = true) (h : ∀ w', Hp w0 fp w' (L.set i (g, C tb (cs.set k (.bool b)))) → WL P n ops rest Q f w') : WL P n ops (⟨none, .store t x y, ty, pos, aft, none⟩ :: rest) Q f w :=
  o_store1 hp hs hx hy rfl rfl hi hk h
theorem o_store_s {s : ByteArray} {w0 : World} {fp : List Nat} {L : Mem} {g k i : Nat} {tb : TypeId} {cs : List Value} (hp : Hp w0 fp w L) (hs : Sz P t 1) (hx : ev f x = .pointer (some ⟨g, k, none⟩)) (hy : ev f y = .string s) (hi : L[i]? = some (g, C tb cs)) (hk : Nat.blt k cs.length = true) (h : ∀ w', Hp w0 fp w' (L.set i (g, C tb (cs.set k (.string s)))) → WL P n ops rest Q f w') : WL P n ops (⟨none, .store t x y, ty, pos, aft, none⟩ :: rest) Q f w :=
  o_store1 hp hs hx hy rfl rfl hi hk h
theorem o_store_p {p : Option Addr} {w0 : World} {fp : List Nat} {L : Mem} {g k i : Nat} {tb : TypeId} {cs : List Value} (hp : Hp w0 fp w L) (hs : Sz P t 1) (hx : ev f x = .pointer (some ⟨g, k, none⟩)) (hy : ev f y = .pointer p) (hi : L[i]? = some (g, C tb cs)) (hk : Nat.blt k cs.length = true) (h : ∀ w', Hp w0 fp w' (L.set i (g, C tb (cs.set k (.pointer p)))) → WL P n ops rest Q f w') : WL P n ops (⟨none, .store t x y, ty, pos, aft, none⟩ :: rest) Q f w :=
  o_store1 hp hs hx hy rfl rfl hi hk h
theorem o_store_sl {p : Option Addr} {m c : Nat} {w0 : World} {fp : List Nat} {L : Mem} {g k i : Nat} {tb : TypeId} {cs : List Value} (hp : Hp w0 fp w L) (hs : Sz P t 1) (hx : ev f x = .pointer (some ⟨g, k, none⟩)) (hy : ev f y = .slice p m c) (hi : L[i]? = some (g, C tb cs)) (hk : Nat.blt k cs.length = true) (h : ∀ w', Hp w0 fp w' (L.set i (g, C tb (cs.set k (.slice p m c)))) → WL P n ops rest Q f w') : WL P n ops (⟨none, .store t x y, ty, pos, aft, none⟩ :: rest) Q f w :=
  o_store1 hp hs hx hy rfl rfl hi hk h
theorem o_store_mp {r : Option Nat} {w0 : World} {fp : List Nat} {L : Mem} {g k i : Nat} {tb : TypeId} {cs : List Value} (hp : Hp w0 fp w L) (hs : Sz P t 1) (hx : ev f x = .pointer (some ⟨g, k, none⟩)) (hy : ev f y = .map r) (hi : L[i]? = some (g, C tb cs)) (hk : Nat.blt k cs.length = true) (h : ∀ w', Hp w0 fp w' (L.set i (g, C tb (cs.set k (.map r)))) → WL P n ops rest Q f w') : WL P n ops (⟨none, .store t x y, ty, pos, aft, none⟩ :: rest) Q f w :=
  o_store1 hp hs hx hy rfl rfl hi hk h
theorem o_store_ni  {w0 : World} {fp : List Nat} {L : Mem} {g k i : Nat} {tb : TypeId} {cs : List Value} (hp : Hp w0 fp w L) (hs : Sz P t 1) (hx : ev f x = .pointer (some ⟨g, k, none⟩)) (hy : ev f y = .nilIface) (hi : L[i]? = some (g, C tb cs)) (hk : Nat.blt k cs.length = true) (h : ∀ w', Hp w0 fp w' (L.set i (g, C tb (cs.set k (.nilIface)))) → WL P n ops rest Q f w') : WL P n ops (⟨none, .store t x y, ty, pos, aft, none⟩ :: rest) Q f w :=
  o_store1 hp hs hx hy rfl rfl hi hk h
theorem o_store_if {tt : TypeId} {v : Value} {w0 : World} {fp : List Nat} {L : Mem} {g k i : Nat} {tb : TypeId} {cs : List Value} (hp : Hp w0 fp w L) (hs : Sz P t 1) (hx : ev f x = .pointer (some ⟨g, k, none⟩)) (hy : ev f y = .iface tt v) (hi : L[i]? = some (g, C tb cs)) (hk : Nat.blt k cs.length = true) (h : ∀ w', Hp w0 fp w' (L.set i (g, C tb (cs.set k (.iface tt v)))) → WL P n ops rest Q f w') : WL P n ops (⟨none, .store t x y, ty, pos, aft, none⟩ :: rest) Q f w :=
  o_store1 hp hs hx hy rfl rfl hi hk h
theorem o_store_nf  {w0 : World} {fp : List Nat} {L : Mem} {g k i : Nat} {tb : TypeId} {cs : List Value} (hp : Hp w0 fp w L) (hs : Sz P t 1) (hx : ev f x = .pointer (some ⟨g, k, none⟩)) (hy : ev f y = .nilFunc) (hi : L[i]? = some (g, C tb cs)) (hk : Nat.blt k cs.length = true) (h : ∀ w', Hp w0 fp w' (L.set i (g, C tb (cs.set k (.nilFunc)))) → WL P n ops rest Q f w') : WL P n ops (⟨none, .store t x y, ty, pos, aft, none⟩ :: rest) Q f w :=
  o_store1 hp hs hx hy rfl rfl hi hk h
theorem o_store_fn {fn : Fn} {c1 c2 : Array Value} {w0 : World} {fp : List Nat} {L : Mem} {g k i : Nat} {tb : TypeId} {cs : List Value} (hp : Hp w0 fp w L) (hs : Sz P t 1) (hx : ev f x = .pointer (some ⟨g, k, none⟩)) (hy : ev f y = .func fn c1 c2) (hi : L[i]? = some (g, C tb cs)) (hk : Nat.blt k cs.length = true) (h : ∀ w', Hp w0 fp w' (L.set i (g, C tb (cs.set k (.func fn c1 c2)))) → WL P n ops rest Q f w') : WL P n ops (⟨none, .store t x y, ty, pos, aft, none⟩ :: rest) Q f w :=
  o_store1 hp hs hx hy rfl rfl hi hk h
theorem g_move {dst : Option Tmp}  (h : WL P n ops (⟨dst, .move x, ty, pos, aft, none⟩ :: rest) Q f w) : WL P n ops (⟨dst, .move x, ty, pos, aft, none⟩ :: rest) Q f w := h
theorem g_assign {dst : Option Tmp}  (h : WL P n ops (⟨dst, .assign x, ty, pos, aft, none⟩ :: rest) Q f w) : WL P n ops (⟨dst, .assign x, ty, pos, aft, none⟩ :: rest) Q f w := h
theorem g_bin {dst : Option Tmp} {op : BinOp} (h : WL P n ops (⟨dst, .binOp op t x y ty', ty, pos, aft, none⟩ :: rest) Q f w) : WL P n ops (⟨dst, .binOp op t x y ty', ty, pos, aft, none⟩ :: rest) Q f w := h
theorem g_load {dst : Option Tmp}  (h : WL P n ops (⟨dst, .load t x, ty, pos, aft, none⟩ :: rest) Q f w) : WL P n ops (⟨dst, .load t x, ty, pos, aft, none⟩ :: rest) Q f w := h
theorem g_fa {dst : Option Tmp} {fld : Nat} (h : WL P n ops (⟨dst, .fieldAddr t x fld, ty, pos, aft, none⟩ :: rest) Q f w) : WL P n ops (⟨dst, .fieldAddr t x fld, ty, pos, aft, none⟩ :: rest) Q f w := h
theorem g_store {dst : Option Tmp}  (h : WL P n ops (⟨dst, .store t x y, ty, pos, aft, none⟩ :: rest) Q f w) : WL P n ops (⟨dst, .store t x y, ty, pos, aft, none⟩ :: rest) Q f w := h
theorem g_pick {dst : Option Tmp}  (h : WL P n ops (⟨dst, .pick z x y, ty, pos, aft, none⟩ :: rest) Q f w) : WL P n ops (⟨dst, .pick z x y, ty, pos, aft, none⟩ :: rest) Q f w := h
theorem g_un {dst : Option Tmp} {uo : UnOp} (h : WL P n ops (⟨dst, .unOp uo t x, ty, pos, aft, none⟩ :: rest) Q f w) : WL P n ops (⟨dst, .unOp uo t x, ty, pos, aft, none⟩ :: rest) Q f w := h
theorem g_conv {dst : Option Tmp} {t' : TypeId} (h : WL P n ops (⟨dst, .convert t t' x, ty, pos, aft, none⟩ :: rest) Q f w) : WL P n ops (⟨dst, .convert t t' x, ty, pos, aft, none⟩ :: rest) Q f w := h
theorem g_box {dst : Option Tmp}  (h : WL P n ops (⟨dst, .box t x, ty, pos, aft, none⟩ :: rest) Q f w) : WL P n ops (⟨dst, .box t x, ty, pos, aft, none⟩ :: rest) Q f w := h
theorem g_alloc {dst : Option Tmp}  (h : WL P n ops (⟨dst, .alloc t, ty, pos, aft, none⟩ :: rest) Q f w) : WL P n ops (⟨dst, .alloc t, ty, pos, aft, none⟩ :: rest) Q f w := h
theorem g_build {dst : Option Tmp} {ps : Array (Nat × Operand)} (h : WL P n ops (⟨dst, .build t ps, ty, pos, aft, none⟩ :: rest) Q f w) : WL P n ops (⟨dst, .build t ps, ty, pos, aft, none⟩ :: rest) Q f w := h
theorem g_extract {dst : Option Tmp} {i : Nat} (h : WL P n ops (⟨dst, .extract x i, ty, pos, aft, none⟩ :: rest) Q f w) : WL P n ops (⟨dst, .extract x i, ty, pos, aft, none⟩ :: rest) Q f w := h
theorem g_call {dst : Option Tmp} {cc : Call} (h : WL P n ops (⟨dst, .call cc, ty, pos, aft, none⟩ :: rest) Q f w) : WL P n ops (⟨dst, .call cc, ty, pos, aft, none⟩ :: rest) Q f w := h
theorem g_ia {dst : Option Tmp}  (h : WL P n ops (⟨dst, .indexAddr t x y, ty, pos, aft, none⟩ :: rest) Q f w) : WL P n ops (⟨dst, .indexAddr t x y, ty, pos, aft, none⟩ :: rest) Q f w := h
theorem g_ix {dst : Option Tmp}  (h : WL P n ops (⟨dst, .index t x y, ty, pos, aft, none⟩ :: rest) Q f w) : WL P n ops (⟨dst, .index t x y, ty, pos, aft, none⟩ :: rest) Q f w := h
theorem g_slice {dst : Option Tmp} {lo hi mx : Option Operand} (h : WL P n ops (⟨dst, .slice t x lo hi mx, ty, pos, aft, none⟩ :: rest) Q f w) : WL P n ops (⟨dst, .slice t x lo hi mx, ty, pos, aft, none⟩ :: rest) Q f w := h
theorem g_nil {dst : Option Tmp}  (h : WL P n ops (⟨dst, .nilCheck x, ty, pos, aft, none⟩ :: rest) Q f w) : WL P n ops (⟨dst, .nilCheck x, ty, pos, aft, none⟩ :: rest) Q f w := h
theorem g_bs {dst : Option Tmp} {m : Nat} {ps : Array (Nat × Operand)} (h : WL P n ops (⟨dst, .buildSlice t m ps, ty, pos, aft, none⟩ :: rest) Q f w) : WL P n ops (⟨dst, .buildSlice t m ps, ty, pos, aft, none⟩ :: rest) Q f w := h
theorem g_mk {dst : Option Tmp}  (h : WL P n ops (⟨dst, .makeSlice t x y, ty, pos, aft, none⟩ :: rest) Q f w) : WL P n ops (⟨dst, .makeSlice t x y, ty, pos, aft, none⟩ :: rest) Q f w := h
theorem g_field {dst : Option Tmp} {m : Nat} (h : WL P n ops (⟨dst, .field t x m, ty, pos, aft, none⟩ :: rest) Q f w) : WL P n ops (⟨dst, .field t x m, ty, pos, aft, none⟩ :: rest) Q f w := h
theorem g_guard {dst : Option Tmp} {op : Op} {gg : Nat × Bool} (h : WL P n ops (⟨dst, op, ty, pos, aft, some gg⟩ :: rest) Q f w) : WL P n ops (⟨dst, op, ty, pos, aft, some gg⟩ :: rest) Q f w := h
theorem gW {c : Code} (h : W P n c Q f w) : W P n c Q f w := h
theorem gcond {c : Operand} {x y : Code} (h : W P n (.cond c x y) Q f w) : W P n (.cond c x y) Q f w := h
theorem lk (i : Nat) {L : Mem} {p : Nat × Obj} (h : L[i]? = some p) : L[i]? = some p := h

theorem o_add_fit {a b : Int} (hx : ev f x = .int .i64 a) (hy : ev f y = .int .i64 b) (hb : Nat.blt d n = true) (hlo : -9223372036854775808 ≤ a + b) (hhi : a + b ≤ 9223372036854775807) (h : WL P n ops rest Q (upd f d (.int .i64 (a + b))) w) : WL P n ops (⟨some d, .binOp .add t x y ty', ty, pos, aft, none⟩ :: rest) Q f w :=
  o_add hx hy hb (by rw [i64_id hlo hhi]; exact h)
theorem o_sub_fit {a b : Int} (hx : ev f x = .int .i64 a) (hy : ev f y = .int .i64 b) (hb : Nat.blt d n = true) (hlo : -9223372036854775808 ≤ a - b) (hhi : a - b ≤ 9223372036854775807) (h : WL P n ops rest Q (upd f d (.int .i64 (a - b))) w) : WL P n ops (⟨some d, .binOp .sub t x y ty', ty, pos, aft, none⟩ :: rest) Q f w :=
  o_sub hx hy hb (by rw [i64_id hlo hhi]; exact h)
theorem o_mul_fit {a b : Int} (hx : ev f x = .int .i64 a) (hy : ev f y = .int .i64 b) (hb : Nat.blt d n = true) (hlo : -9223372036854775808 ≤ a * b) (hhi : a * b ≤ 9223372036854775807) (h : WL P n ops rest Q (upd f d (.int .i64 (a * b))) w) : WL P n ops (⟨some d, .binOp .mul t x y ty', ty, pos, aft, none⟩ :: rest) Q f w :=
  o_mul hx hy hb (by rw [i64_id hlo hhi]; exact h)
theorem o_eqlb {a b : Bool} (hx : ev f x = .bool a) (hy : ev f y = .bool b) (ht : BoolT P t) (hb : Nat.blt d n = true) (h : WL P n ops rest Q (upd f d (.bool (a == b))) w) : WL P n ops (⟨some d, .binOp .eql t x y ty', ty, pos, aft, none⟩ :: rest) Q f w :=
  o_val rfl rfl hb (by have := ht.out; simp [execOp, hx, hy, go_sem, this]) h
theorem o_neqb {a b : Bool} (hx : ev f x = .bool a) (hy : ev f y = .bool b) (ht : BoolT P t) (hb : Nat.blt d n = true) (h : WL P n ops rest Q (upd f d (.bool (a != b))) w) : WL P n ops (⟨some d, .binOp .neq t x y ty', ty, pos, aft, none⟩ :: rest) Q f w :=
  o_val rfl rfl hb (by have := ht.out; simp [execOp, hx, hy, go_sem, this, bne]) h

end
end Go.Proofs.Ytipjhbkjgidljaa.E
