/- A step engine for walks: new blocks in front; slices that a call owns; append; reslicing. -/
import Derived.Test.YtipjhbkjgidljaaEm
set_option linter.unusedVariables false
set_option linter.unusedSimpArgs false
set_option linter.unusedSectionVars false
namespace Go.Proofs.Ytipjhbkjgidljaa.E
open Go Go.RowKit
theorem Hp.allocF {w0 w : World} {fp : List Nat} {L : Mem} (h : Hp w0 fp w L) (o : Obj) : Hp w0 fp (w.alloc o) ((w.heap.size, o) :: L) :=
  (h.alloc o).perm (by simpa using (List.perm_append_comm (l₁ := [(w.heap.size, o)]) (l₂ := L)))
/-- the bytes of an element are few. -/
class Bt (P : Program) (t : TypeId) : Prop where out : (P.info? t).map (fun i => decide (i.bytes ≤ 4096)) = some true
section
variable {P : Program} {n d : Nat} {ops : Array Oper} {rest : List Oper} {Q : Exit → Fr → World → Prop} {f : Fr} {w w0 : World} {fp : List Nat} {L : Mem} {v u : Value} {t ty ty' : TypeId} {pos : String} {aft : Array Edge} {x y z : Operand} {Cq : World → Prop} {Kq : Fr → Prop}
theorem f_box1 (hp : Hp w0 fp w L) (hx : ev f x = v) (h1 : v.cells = #[v]) (hb : Nat.blt d n = true) (h : ∀ g w', Hp w0 fp w' ((g, C t [v]) :: L) → WL P n ops rest Q (upd f d (.pointer (some ⟨g, 0, none⟩))) w') : WL P n ops (⟨some d, .box t x, ty, pos, aft, none⟩ :: rest) Q f w :=
  o_val rfl rfl hb (w' := w.alloc (C t [v])) (by
    unfold Value.cells at h1
    simp [execOp, Instr.box, newVar, newRow, hx, Value.cells, go_sem, C, h1]) (h _ _ (hp.allocF _))
theorem f_box_i {k : IntKind} {a : Int} (hp : Hp w0 fp w L) (hx : ev f x = .int k a) (hb : Nat.blt d n = true) (h : ∀ g w', Hp w0 fp w' ((g, C t [.int k a]) :: L) → WL P n ops rest Q (upd f d (.pointer (some ⟨g, 0, none⟩))) w') : WL P n ops (⟨some d, .box t x, ty, pos, aft, none⟩ :: rest) Q f w := f_box1 hp hx rfl hb h
theorem f_box_b {b : Bool} (hp : Hp w0 fp w L) (hx : ev f x = .bool b) (hb : Nat.blt d n = true) (h : ∀ g w', Hp w0 fp w' ((g, C t [.bool b]) :: L) → WL P n ops rest Q (upd f d (.pointer (some ⟨g, 0, none⟩))) w') : WL P n ops (⟨some d, .box t x, ty, pos, aft, none⟩ :: rest) Q f w := f_box1 hp hx rfl hb h
theorem f_box_s {s : ByteArray} (hp : Hp w0 fp w L) (hx : ev f x = .string s) (hb : Nat.blt d n = true) (h : ∀ g w', Hp w0 fp w' ((g, C t [.string s]) :: L) → WL P n ops rest Q (upd f d (.pointer (some ⟨g, 0, none⟩))) w') : WL P n ops (⟨some d, .box t x, ty, pos, aft, none⟩ :: rest) Q f w := f_box1 hp hx rfl hb h
theorem f_box_p {p : Option Addr} (hp : Hp w0 fp w L) (hx : ev f x = .pointer p) (hb : Nat.blt d n = true) (h : ∀ g w', Hp w0 fp w' ((g, C t [.pointer p]) :: L) → WL P n ops rest Q (upd f d (.pointer (some ⟨g, 0, none⟩))) w') : WL P n ops (⟨some d, .box t x, ty, pos, aft, none⟩ :: rest) Q f w := f_box1 hp hx rfl hb h
theorem f_box_sl {p : Option Addr} {m c : Nat} (hp : Hp w0 fp w L) (hx : ev f x = .slice p m c) (hb : Nat.blt d n = true) (h : ∀ g w', Hp w0 fp w' ((g, C t [.slice p m c]) :: L) → WL P n ops rest Q (upd f d (.pointer (some ⟨g, 0, none⟩))) w') : WL P n ops (⟨some d, .box t x, ty, pos, aft, none⟩ :: rest) Q f w := f_box1 hp hx rfl hb h
theorem f_box_fn {fn : Fn} {a b : Array Value} (hp : Hp w0 fp w L) (hx : ev f x = .func fn a b) (hb : Nat.blt d n = true) (h : ∀ g w', Hp w0 fp w' ((g, C t [.func fn a b]) :: L) → WL P n ops rest Q (upd f d (.pointer (some ⟨g, 0, none⟩))) w') : WL P n ops (⟨some d, .box t x, ty, pos, aft, none⟩ :: rest) Q f w := f_box1 hp hx rfl hb h
theorem f_box_ag {cs : List Value} (hp : Hp w0 fp w L) (hx : ev f x = .agg cs.toArray) (hb : Nat.blt d n = true) (h : ∀ g w', Hp w0 fp w' ((g, C t cs) :: L) → WL P n ops rest Q (upd f d (.pointer (some ⟨g, 0, none⟩))) w') : WL P n ops (⟨some d, .box t x, ty, pos, aft, none⟩ :: rest) Q f w :=
  o_val rfl rfl hb (w' := w.alloc (C t cs)) (by simp [execOp, Instr.box, newVar, newRow, hx, Value.cells, go_sem, C]) (h _ _ (hp.allocF _))
theorem f_alloc {z : List Value} [hz : Zr P t z] (hp : Hp w0 fp w L) (hb : Nat.blt d n = true) (h : ∀ g w', Hp w0 fp w' ((g, C t z) :: L) → WL P n ops rest Q (upd f d (.pointer (some ⟨g, 0, none⟩))) w') : WL P n ops (⟨some d, .alloc t, ty, pos, aft, none⟩ :: rest) Q f w :=
  o_alloc hp hb fun g w' hp' => h g w' (hp'.perm (by simpa using (List.perm_append_comm (l₁ := [(g, C t z)]) (l₂ := L))))
theorem f_bs {e : TypeId} {m len : Nat} {zz cs : List Value} {pl : List (Nat × Operand)} (hp : Hp w0 fp w L) (ht : SlE P t e) (hm : Sz P e m) (hz : Zr P e zz) (hlm : Nat.ble (len * m) 16777216 = true) (hne : Nat.beq (len * m) 0 = false)
    (hzl : zz.length = m) (hc : fillS m ((List.replicate len zz).flatten) (pl.map fun p => (p.1, ev f p.2)) = some cs) (hb : Nat.blt d n = true)
    (h : ∀ g w', Hp w0 fp w' ((g, C e cs) :: L) → WL P n ops rest Q (upd f d (.slice (some ⟨g, 0, none⟩) len len)) w') : WL P n ops (⟨some d, .buildSlice t len pl.toArray, ty, pos, aft, none⟩ :: rest) Q f w :=
  o_bs hp ht hm hz hlm hne hzl hc hb fun g w' hp' => h g w' (hp'.perm (by simpa using (List.perm_append_comm (l₁ := [(g, C e cs)]) (l₂ := L))))
theorem f_bs0 {e : TypeId} {m : Nat} (hp : Hp w0 fp w L) (ht : SlE P t e) (hm : Sz P e m) (hb : Nat.blt d n = true)
    (h : ∀ g w', Hp w0 fp w' L → WL P n ops rest Q (upd f d (.slice (some ⟨g, 0, none⟩) 0 0)) w') : WL P n ops (⟨some d, .buildSlice t 0 #[], ty, pos, aft, none⟩ :: rest) Q f w :=
  o_val rfl rfl hb (w' := w.alloc (C e [])) (by
    have h1 : P.underlying t = some (.slice e) := ht.out
    simp only [execOp]
    rw [Sem.run_bind]
    have hs : (Instr.buildSlice t 0 #[]).run P w = .ok (.slice (some ⟨w.heap.size, 0, none⟩) 0 0) (w.alloc (C e [])) := by
      unfold Instr.buildSlice
      simp only [Sem.run_bind, run_underlying h1]
      simp only [run_sizeOf (P := P) (t := e) (s := m), Result.andThen, Sem.run_bind]
      simp [Instr.fill, newRow, C, Array.range_zero']
    simp only [List.map_toArray, List.map_nil] at hs ⊢
    rw [hs]; rfl) (h _ _ ((hp.alloc _).sub (List.sublist_append_left _ _)))
/-- make. -/
theorem f_mk {e : TypeId} {m : Nat} {zz : List Value} {a : Int} (hp : Hp w0 fp w L) (ht : SlE P t e) (hm : Sz P e m) (hz : Zr P e zz) (hbt : Bt P e) (hm0 : Nat.blt 0 m = true) (hzl : zz.length = m) (hx : ev f x = .int .i64 a) (hy : ev f y = .int .i64 a) (h0 : 0 ≤ a) (h1 : a ≤ 16777216) (hb : Nat.blt d n = true)
    (h : ∀ g w', Hp w0 fp w' ((g, C e ((List.replicate a.toNat zz).flatten)) :: L) → WL P n ops rest Q (upd f d (.slice (some ⟨g, 0, none⟩) a.toNat a.toNat)) w') : WL P n ops (⟨some d, .makeSlice t x y, ty, pos, aft, none⟩ :: rest) Q f w :=
  o_val rfl rfl hb (w' := w.alloc (C e ((List.replicate a.toNat zz).flatten))) (by
    have h1' : P.underlying t = some (.slice e) := ht.out
    have h2 := hz.out
    have h3 := hbt.out
    have hz0 := rep_get zz m a.toNat hzl
    have hm0' : 0 < m := by simpa using hm0
    cases hi : P.info? e with
    | none => rw [hi] at h2; cases h2
    | some i =>
      rw [hi] at h2 h3
      simp only [Option.bind_some] at h2
      simp only [Option.map_some, Option.some.injEq, decide_eq_true_eq] at h3
      cases hzz : i.zero with
      | none => rw [hzz] at h2; cases h2
      | some v =>
        rw [hzz] at h2
        simp only [Option.map_some, Option.some.injEq] at h2
        have h6 : v.cells = zz.toArray := by rw [← h2]
        have hnt : (i.bytes : Int) * a ≤ 281474976710656 := by
          have : (i.bytes : Int) * a ≤ 4096 * 16777216 := Int.mul_le_mul (by omega) h1 h0 (by omega)
          omega
        have hmi : i.size = m := by
          have := hm.out; rw [hi] at this; simpa using this
        have hs := run_make (P := P) w t e i v h1' hi hzz .i64 .i64 a a h0 (Int.le_refl _) hnt (by omega)
        have e1 : madeCells v.cells (a.toNat * i.size) = ((List.replicate a.toNat zz).flatten).toArray := by
          rw [h6, hmi, ← hz0]; rfl
        rw [e1] at hs
        simp only [execOp, hx, hy]
        rw [Sem.run_bind, hs]
        rfl) (h _ _ (hp.allocF _))
end
end Go.Proofs.Ytipjhbkjgidljaa.E
