/- A step engine for walks: one lemma for each operation. -/
import Derived.Test.YtipjhbkjgidljaaEng
set_option linter.unusedVariables false
set_option linter.unusedSimpArgs false
namespace Go.Proofs.Ytipjhbkjgidljaa.E
open Go Go.RowKit

/-! ### 1. Closed facts on types -/
class Sz (P : Program) (t : TypeId) (s : outParam Nat) : Prop where out : (P.info? t).map (·.size) = some s
class Zr (P : Program) (t : TypeId) (z : outParam (List Value)) : Prop where out : ((P.info? t).bind (·.zero)).map (·.cells.toList) = some z
class Sc (P : Program) (t : TypeId) : Prop where out : (P.underlying t).map (fun d => match d with | .struct _ | .array _ _ => true | _ => false) = some false
class Ag (P : Program) (t : TypeId) : Prop where out : (P.underlying t).map (fun d => match d with | .struct _ | .array _ _ => true | _ => false) = some true
def fo (P : Program) (s fld : Nat) : Option Nat :=
  match P.underlying s with
  | some (.struct fs) => match fs[fld]? with
    | some f => match P.info? f.type with
      | some i => if i.size = 0 then none else some f.offset
      | none => none
    | none => none
  | _ => none
class Fo (P : Program) (s fld : Nat) (off : outParam Nat) : Prop where out : fo P s fld = some off
class SlE (P : Program) (t : TypeId) (e : outParam TypeId) : Prop where out : P.underlying t = some (.slice e)
class ArE (P : Program) (t : TypeId) (n : outParam Nat) (e : outParam TypeId) : Prop where out : P.underlying t = some (.array n e)
class StrT (P : Program) (t : TypeId) : Prop where out : P.underlying t = some .string
class IntT (P : Program) (t : TypeId) (k : outParam IntKind) : Prop where out : P.underlying t = some (.int k)
class BoolT (P : Program) (t : TypeId) : Prop where out : P.underlying t = some .bool
class PtrT (P : Program) (t : TypeId) (e : outParam TypeId) : Prop where out : P.underlying t = some (.pointer e)
def places (P : Program) (t : TypeId) : Option (List (Nat × Nat)) :=
  match P.underlying t with
  | some (.struct fs) => fs.toList.mapM (fun f => (P.info? f.type).map fun i => (f.offset, i.size))
  | _ => none
class Pl (P : Program) (t : TypeId) (ps : outParam (List (Nat × Nat))) : Prop where out : places P t = some ps

/-! ### 2. One operation -/
section
variable {P : Program} {n d : Nat} {ops : Array Oper} {rest : List Oper} {Q : Exit → Fr → World → Prop} {f : Fr} {w w' : World} {v : Value}
theorem o_val {o : Oper} (hg : o.guard = none) (hd : o.dst = some d) (hb : Nat.blt d n = true) (hr : (execOp (ev f) o).run P w = .ok (.value v) w') (h : WL P n ops rest Q (upd f d v) w') : WL P n ops (o :: rest) Q f w := fun a ha =>
  wpList_plain hg fun K hK => by
    unfold Oper.wp
    rw [ha.eval, hr, Oper.upon_value, hd]
    exact hK _ _ (h _ (ha.put hb))
theorem o_skip {o : Oper} (hg : o.guard = none) (hd : o.dst = none) (hr : (execOp (ev f) o).run P w = .ok .skip w') (h : WL P n ops rest Q f w') : WL P n ops (o :: rest) Q f w := fun a ha =>
  wpList_plain hg fun K hK => by
    unfold Oper.wp
    rw [ha.eval, hr, Oper.upon_skip, hd]
    exact hK _ _ (h _ ha.put_none)
theorem o_enter {o : Oper} (hg : o.guard = none) (hd : o.dst = some d) (hb : Nat.blt d n = true) {fid : FuncId} {args : Array Value} (hr : (execOp (ev f) o).run P w = .ok (.enter fid args) w) {S : Value → World → Prop}
    (hc : Calls P fid args w fun e w' => ∃ v, e = .returned v ∧ S v w') (h : ∀ v w', S v w' → WL P n ops rest Q (upd f d v) w') : WL P n ops (o :: rest) Q f w := fun a ha =>
  wpList_plain hg fun K hK => by
    unfold Oper.wp
    rw [ha.eval, hr, Oper.upon_enter]
    refine hc.mono ?_
    rintro e w' ⟨v, rfl, hs⟩
    rw [hd]
    exact hK _ _ (h v w' hs _ (ha.put hb))
theorem o_enter0 {o : Oper} (hg : o.guard = none) (hd : o.dst = none) {fid : FuncId} {args : Array Value} (hr : (execOp (ev f) o).run P w = .ok (.enter fid args) w) {S : Value → World → Prop}
    (hc : Calls P fid args w fun e w' => ∃ v, e = .returned v ∧ S v w') (h : ∀ v w', S v w' → WL P n ops rest Q f w') : WL P n ops (o :: rest) Q f w := fun a ha =>
  wpList_plain hg fun K hK => by
    unfold Oper.wp
    rw [ha.eval, hr, Oper.upon_enter]
    refine hc.mono ?_
    rintro e w' ⟨v, rfl, hs⟩
    rw [hd]
    exact hK _ _ (h v w' hs _ ha.put_none)
/-- a guarded operation: the guard's operation has written the Bool b. -/
theorem o_guard {o : Oper} {j : Nat} {want b : Bool} {t : Tmp} (hg : o.guard = some (j, want)) (hj : (ops[j]?).bind (·.dst) = some t) (hb : f t = .bool b)
    (h1 : b = want → WL P n ops ({ o with guard := none } :: rest) Q f w) (h2 : b ≠ want → ∀ d, o.dst = some d → Nat.blt d n = true ∧ WL P n ops rest Q (upd f d undef) w) (h3 : o.dst.isSome = true) : WL P n ops (o :: rest) Q f w := fun a ha => by
  have hy : yielded ops a.tmps j = some b := by
    have h0 : a.tmps.getD t undef = .bool b := (ha.2.2 t).trans hb
    unfold yielded
    rw [hj]
    simp only [Option.bind_some]
    rw [Array.getD_eq_getD_getElem?] at h0
    cases hh : a.tmps[t]? with
    | none => rw [hh] at h0; cases h0
    | some x => rw [hh] at h0; simp at h0; subst h0; rfl
  by_cases e : b = want
  · have hw : Region.wanted o (yielded ops a.tmps) = true := by simp [Region.wanted, hg, hy, e]
    have h4 := h1 e a ha
    unfold wpList at h4 ⊢
    rw [if_pos hw]
    rw [if_pos (by simp [Region.wanted])] at h4
    exact h4
  · have hw : ¬ Region.wanted o (yielded ops a.tmps) = true := by simp [Region.wanted, hg, hy, e]
    unfold wpList
    rw [if_neg hw]
    obtain ⟨d, hd⟩ := Option.isSome_iff_exists.1 h3
    obtain ⟨h5, h6⟩ := h2 e d hd
    rw [hd]
    exact h6 _ (ha.put h5)
end
end Go.Proofs.Ytipjhbkjgidljaa.E
