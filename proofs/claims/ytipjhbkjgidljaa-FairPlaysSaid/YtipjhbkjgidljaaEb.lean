/- A step engine for walks: slices that the program makes. -/
import Derived.Test.YtipjhbkjgidljaaEq
set_option linter.unusedVariables false
set_option linter.unusedSimpArgs false
set_option linter.unusedSectionVars false
namespace Go.Proofs.Ytipjhbkjgidljaa.E
open Go Go.RowKit
/-- what 'fill' makes of a row of elements of m cells each. -/
def fillS (m : Nat) (z : List Value) : List (Nat × Value) → Option (List Value)
  | [] => some z
  | (i, v) :: rest => bif Nat.beq (cellsL v).length m && Nat.ble (i * m + (cellsL v).length) z.length then fillS m (z.take (i * m) ++ cellsL v ++ z.drop (i * m + (cellsL v).length)) rest else none
theorem fillS_of (m : Nat) : ∀ (parts : List (Nat × Value)) (z cs : List Value), fillS m z parts = some cs → Instr.fill (fun i => some (i * m, m)) z.toArray parts = some cs.toArray
  | [], z, cs, h => by simp [fillS] at h; subst h; rfl
  | (i, v) :: rest, z, cs, h => by
    unfold fillS at h
    simp only [cellsL_eq] at h
    unfold Instr.fill
    cases hb : (Nat.beq v.cells.toList.length m && Nat.ble (i * m + v.cells.toList.length) z.length) with
    | false => rw [hb] at h; cases h
    | true =>
      rw [hb] at h
      simp only [cond_true] at h
      simp only [Bool.and_eq_true] at hb
      have h1 : v.cells.toList.length = m := Nat.eq_of_beq_eq_true hb.1
      have h2 : i * m + v.cells.toList.length ≤ z.length := by simpa using hb.2
      simp only
      rw [if_neg (by simp at h1 h2 ⊢; omega)]
      have ih := fillS_of m rest _ cs h
      have e : (v.cells.zipIdx.foldl (fun cs (x : Value × Nat) => cs.setIfInBounds (i * m + x.2) x.1) z.toArray) = (z.take (i * m) ++ v.cells.toList ++ z.drop (i * m + v.cells.toList.length)).toArray := by
        have := foldl_fill (i * m) v.cells.toList 0 z.toArray (by simpa using h2)
        apply Array.toList_inj.1
        rw [← Array.foldl_toList, Array.toList_zipIdx]
        simpa using this
      rw [← ih, ← e]
theorem flat_get {R : Type} {m : Nat} {enc : R → List Value} : ∀ {rs : List R} (hm : ∀ r ∈ rs, (enc r).length = m) (i j : Nat) (r : R) (v : Value), rs[i]? = some r → (enc r)[j]? = some v → (rs.map enc).flatten[i * m + j]? = some v
  | [], _, i, j, r, v, h, _ => by simp at h
  | a :: rs, hm, 0, j, r, v, h, hv => by
    simp at h; subst h
    have hlt : j < (enc a).length := (List.getElem?_eq_some_iff.1 hv).1
    simp only [List.map_cons, List.flatten_cons, Nat.zero_mul, Nat.zero_add]
    rw [List.getElem?_append_left hlt]; exact hv
  | a :: rs, hm, i + 1, j, r, v, h, hv => by
    simp only [List.getElem?_cons_succ] at h
    have ha := hm a (by simp)
    simp only [List.map_cons, List.flatten_cons]
    have e : (i + 1) * m + j = m + (i * m + j) := by rw [Nat.add_mul, Nat.one_mul]; omega
    rw [e, List.getElem?_append_right (by omega), ha, Nat.add_sub_cancel_left]
    exact flat_get (fun r hr => hm r (by simp [hr])) i j r v h hv
theorem rep_get (zz : List Value) (m len : Nat) (hm : zz.length = m) : ((Array.range (len * m)).map fun i => zz.toArray[i % zz.toArray.size]!) = ((List.replicate len zz).flatten).toArray := by
  apply Array.toList_inj.1
  apply List.ext_getElem?
  intro i
  have hlen : ((List.replicate len zz).flatten).length = len * m := by simp [hm]
  by_cases h : i < len * m
  · have hm0 : 0 < m := by
      rcases Nat.eq_zero_or_pos m with h0 | h0
      · rw [h0, Nat.mul_zero] at h; omega
      · exact h0
    have h1 : i / m < len := by rw [Nat.div_lt_iff_lt_mul hm0]; exact h
    have h2 : i % m < zz.length := by rw [hm]; exact Nat.mod_lt _ hm0
    have h3 := flat_get (R := List Value) (m := m) (enc := id) (rs := List.replicate len zz) (by intro r hr; rw [List.eq_of_mem_replicate hr]; exact hm) (i / m) (i % m) zz zz[i % m] (by simp [h1]) (by simp [h2])
    rw [List.map_id, Nat.div_add_mod'] at h3
    have e : (((List.replicate len zz).flatten).toArray).toList = (List.replicate len zz).flatten := rfl
    rw [e, h3]
    simp [h, hm]
    rw [List.getElem?_eq_getElem h2]; rfl
  · rw [List.getElem?_eq_none (by simp; omega), List.getElem?_eq_none (by simp [hm]; omega)]
section
variable {P : Program} {n d : Nat} {ops : Array Oper} {rest : List Oper} {Q : Exit → Fr → World → Prop} {f : Fr} {w w0 : World} {fp : List Nat} {L : Mem} {v u : Value} {t ty ty' : TypeId} {pos : String} {aft : Array Edge} {x y z : Operand}
theorem o_bs {e : TypeId} {m len : Nat} {zz cs : List Value} {pl : List (Nat × Operand)} (hp : Hp w0 fp w L) (ht : SlE P t e) (hm : Sz P e m) (hz : Zr P e zz) (hlm : Nat.ble (len * m) 16777216 = true) (hne : Nat.beq (len * m) 0 = false)
    (hzl : zz.length = m) (hc : fillS m ((List.replicate len zz).flatten) (pl.map fun p => (p.1, ev f p.2)) = some cs) (hb : Nat.blt d n = true)
    (h : ∀ g w', Hp w0 fp w' (L ++ [(g, C e cs)]) → WL P n ops rest Q (upd f d (.slice (some ⟨g, 0, none⟩) len len)) w') : WL P n ops (⟨some d, .buildSlice t len pl.toArray, ty, pos, aft, none⟩ :: rest) Q f w :=
  o_val rfl rfl hb (w' := w.alloc (C e cs)) (by
    have h1 : P.underlying t = some (.slice e) := ht.out
    have h2 := hz.out
    have h3 : len * m ≤ 16777216 := by simpa using hlm
    have h4 : len * m ≠ 0 := fun h => by rw [h] at hne; cases hne
    have h5 := fillS_of m _ _ _ hc
    have hz0 := rep_get zz m len hzl
    cases hi : P.info? e with
    | none => rw [hi] at h2; cases h2
    | some i =>
      rw [hi] at h2
      simp only [Option.bind_some] at h2
      cases hzz : i.zero with
      | none => rw [hzz] at h2; cases h2
      | some v =>
        rw [hzz] at h2
        simp only [Option.map_some, Option.some.injEq] at h2
        have h6 : v.cells = zz.toArray := by rw [← h2]
        have hs : (Instr.buildSlice t len (pl.toArray.map fun (i, x) => (i, ev f x))).run P w = .ok (.slice (some ⟨w.heap.size, 0, none⟩) len len) (w.alloc (C e cs)) := by
          unfold Instr.buildSlice
          simp only [Sem.run_bind, run_underlying h1]
          simp only [run_sizeOf (P := P) (t := e) (s := m), Result.andThen, Sem.run_bind]
          rw [if_neg (by omega)]
          simp [h4, zeroValue, typeInfo, hi, hzz, h6, hz0, h5, newRow]
          have hz1 := hz0
          simp only [List.getElem!_toArray, List.size_toArray, List.getElem!_eq_getElem?_getD] at hz1
          rw [hz1, h5]
          simp [C]
        simp only [execOp]
        rw [Sem.run_bind, hs]
        rfl) (h _ _ (hp.alloc _))
end
theorem add_none (g k j : Nat) : (⟨g, k, none⟩ : Addr).add j = ⟨g, k + j, none⟩ := by unfold Addr.add; split <;> simp_all
theorem SlR.blk {R : Type} {m i g : Nat} {enc : R → List Value} {rs : List R} {t : TypeId} {cs : List Value} {w0 w : World} {fp : List Nat} {L : Mem} (hp : Hp w0 fp w L) (hi : L[i]? = some (g, C t cs)) (hcs : cs = (rs.map enc).flatten) (hm : ∀ r ∈ rs, (enc r).length = m) : SlR m enc w (some ⟨g, 0, none⟩) rs.length rs :=
  ⟨rfl, fun k r hr => ⟨_, rfl, fun j v hv => by
    rw [add_none, add_none, Nat.zero_add, hp.cell hi, hcs]
    exact flat_get hm k j r v hr hv⟩⟩
end Go.Proofs.Ytipjhbkjgidljaa.E
