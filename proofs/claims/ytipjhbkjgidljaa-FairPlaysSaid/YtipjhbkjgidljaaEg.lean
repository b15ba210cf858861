/- A step engine for walks: an index into a known block, the element known. -/
import Derived.Test.YtipjhbkjgidljaaEp
set_option linter.unusedVariables false
namespace Go.Proofs.Ytipjhbkjgidljaa.E
open Go Go.RowKit
section
variable {P : Program} {n d : Nat} {ops : Array Oper} {rest : List Oper} {Q : Exit → Fr → World → Prop} {f : Fr} {w w0 : World} {fp : List Nat} {L : Mem} {v u : Value} {t ty ty' : TypeId} {pos : String} {aft : Array Edge} {x y z : Operand} {Cq : World → Prop} {Kq : Fr → Prop}
theorem o_iaKn {R : Type} {m N c g o : Nat} {e : TypeId} {enc : R → List Value} {bs : List Value} {rs : List R} {k : IntKind} {i : Int} {r : R} (hs : Rows m enc bs o rs) (ht : SlE P t e) (hm : Sz P e m) (hx : ev f x = .slice (some ⟨g, o, none⟩) N c) (hy : ev f y = .int k i) (h0 : 0 ≤ i) (hr : rs[i.toNat]? = some r) (hN : N = rs.length) (hb : Nat.blt d n = true)
    (h : ∀ a, a = o + i.toNat * m → Cut bs a (enc r) → WL P n ops rest Q (upd f d (.pointer (some ⟨g, a, none⟩))) w) : WL P n ops (⟨some d, .indexAddr t x y, ty, pos, aft, none⟩ :: rest) Q f w :=
  o_iaK hs ht hm hx hy h0 (by have := (List.getElem?_eq_some_iff.1 hr).1; omega) hN hb fun a r' ha hr' hc => by rw [hr] at hr'; cases hr'; exact h a ha hc
theorem q_iaKn {R : Type} {m N c g o : Nat} {e : TypeId} {enc : R → List Value} {bs : List Value} {rs : List R} {k : IntKind} {i : Int} {r : R} (hs : Rows m enc bs o rs) (ht : SlE P t e) (hm : Sz P e m) (hx : ev f x = .slice (some ⟨g, o, none⟩) N c) (hy : ev f y = .int k i) (h0 : 0 ≤ i) (hr : rs[i.toNat]? = some r) (hN : N = rs.length) (hb : Nat.blt d n = true)
    (h : ∀ a, a = o + i.toNat * m → Cut bs a (enc r) → QL P n ops Cq rest Kq (upd f d (.pointer (some ⟨g, a, none⟩)))) : QL P n ops Cq (⟨some d, .indexAddr t x y, ty, pos, aft, none⟩ :: rest) Kq f :=
  q_iaK hs ht hm hx hy h0 (by have := (List.getElem?_eq_some_iff.1 hr).1; omega) hN hb fun a r' ha hr' hc => by rw [hr] at hr'; cases hr'; exact h a ha hc
theorem run_eqnilslIn (k : Nat) {e : TypeId} [ht : SlE P t e] (p : Option Addr) (a b : Nat) : (Op.equalIn (k + 1) t (.slice p a b) (.slice none 0 0)).run P w = .ok p.isNone w := by
  have h1 : P.underlying t = some (.slice e) := ht.out
  cases p <;> simp [Op.equalIn, run_underlying h1]
theorem run_eqnilsl {e : TypeId} [ht : SlE P t e] (p : Option Addr) (a b : Nat) : (Op.equal t (.slice p a b) (.slice none 0 0)).run P w = .ok p.isNone w := run_eqnilslIn 9999 p a b
theorem o_eqsl {e : TypeId} {p : Option Addr} {a b : Nat} (ht : SlE P t e) (hx : ev f x = .slice p a b) (hy : ev f y = .slice none 0 0) (hb : Nat.blt d n = true) (h : WL P n ops rest Q (upd f d (.bool p.isNone)) w) : WL P n ops (⟨some d, .binOp .eql t x y ty', ty, pos, aft, none⟩ :: rest) Q f w :=
  o_val rfl rfl hb (by simp [execOp, hx, hy, go_sem, eqGuard, binOp, run_eqnilsl]) h
theorem o_nesl {e : TypeId} {p : Option Addr} {a b : Nat} (ht : SlE P t e) (hx : ev f x = .slice p a b) (hy : ev f y = .slice none 0 0) (hb : Nat.blt d n = true) (h : WL P n ops rest Q (upd f d (.bool p.isSome)) w) : WL P n ops (⟨some d, .binOp .neq t x y ty', ty, pos, aft, none⟩ :: rest) Q f w :=
  o_val rfl rfl hb (by cases p <;> simp [execOp, hx, hy, go_sem, eqGuard, binOp, run_eqnilsl]) h
theorem Kn.one {w : World} {g : Nat} {o : Obj} (h : w.heap[g]? = some o) : Kn w [(g, o)] := ⟨fun p hp => by simp at hp; subst hp; exact h, by simp⟩
theorem row_set {R : Type} {m i off : Nat} {enc : R → List Value} {rs : List R} {pad : List Value} {r r' : R} {v : Value} (hm : ∀ r ∈ rs, (enc r).length = m) (hr : rs[i]? = some r) (he : enc r' = (enc r).set off v) (ho : off < m) : i * m + off < ((rs.map enc).flatten ++ pad).length ∧ ((rs.map enc).flatten ++ pad).set (i * m + off) v = ((rs.set i r').map enc).flatten ++ pad := by
  have hi := (List.getElem?_eq_some_iff.1 hr).1
  have hmr : (enc r).length = m := hm r (List.mem_of_getElem? hr)
  have hl := flat_len hm
  have hle : (i + 1) * m ≤ rs.length * m := Nat.mul_le_mul_right _ hi
  rw [Nat.add_mul, Nat.one_mul] at hle
  have hlen : i * m + (enc r).length ≤ ((rs.map enc).flatten ++ pad).length := by rw [hmr]; simp only [List.length_append]; omega
  have hcut : Cut ((rs.map enc).flatten ++ pad) (i * m) (enc r) := by have := Rows.flat (pad := pad) hm i r hr; rwa [Nat.zero_add] at this
  refine ⟨by omega, ?_⟩
  conv => lhs; arg 1; rw [← spl_self hcut]
  rw [spl_set (by omega) (by omega), ← he]
  exact spl_rows hm (by rw [he]; simp [hmr]) hi
/-- a store into a field of a row of a known block. -/
theorem o_storeRow {R : Type} {m g j i a off : Nat} {enc : R → List Value} {rs : List R} {r : R} (r' : R) {pad : List Value} {tb : TypeId} (hp : Hp w0 fp w L) (hs : Sz P t 1) (hx : ev f x = .pointer (some ⟨g, a + off, none⟩)) (hy : ev f y = v) (h1 : v.cells = #[v]) (h2 : v.oneCell' = true) (hi : L[j]? = some (g, C tb ((rs.map enc).flatten ++ pad))) (ha : a = 0 + i * m) (hm : ∀ r ∈ rs, (enc r).length = m) (hr : rs[i]? = some r) (he : enc r' = (enc r).set off v) (ho : Nat.blt off m = true)
    (h : ∀ w', Hp w0 fp w' (L.set j (g, C tb (((rs.set i r').map enc).flatten ++ pad))) → WL P n ops rest Q f w') : WL P n ops (⟨none, .store t x y, ty, pos, aft, none⟩ :: rest) Q f w := by
  rw [Nat.zero_add] at ha; subst ha
  have hrs := row_set (pad := pad) hm hr he (by simpa using ho)
  refine o_store1 hp hs hx hy h1 h2 hi (by simpa using hrs.1) fun w' hp' => h w' ?_
  rw [hrs.2] at hp'; exact hp'
theorem o_storeRow0 {R : Type} {m g j i a : Nat} {enc : R → List Value} {rs : List R} {r : R} (r' : R) {pad : List Value} {tb : TypeId} (hp : Hp w0 fp w L) (hs : Sz P t 1) (hx : ev f x = .pointer (some ⟨g, a, none⟩)) (hy : ev f y = v) (h1 : v.cells = #[v]) (h2 : v.oneCell' = true) (hi : L[j]? = some (g, C tb ((rs.map enc).flatten ++ pad))) (ha : a = 0 + i * m) (hm : ∀ r ∈ rs, (enc r).length = m) (hr : rs[i]? = some r) (he : enc r' = (enc r).set 0 v) (ho : Nat.blt 0 m = true)
    (h : ∀ w', Hp w0 fp w' (L.set j (g, C tb (((rs.set i r').map enc).flatten ++ pad))) → WL P n ops rest Q f w') : WL P n ops (⟨none, .store t x y, ty, pos, aft, none⟩ :: rest) Q f w :=
  o_storeRow (off := 0) r' hp hs hx hy h1 h2 hi ha hm hr he ho h
theorem o_storeRowE {R : Type} {m g j i a off : Nat} {enc : R → List Value} {rs : List R} {r : R} (r' : R) (rs' : List R) {pad : List Value} {tb : TypeId} (hp : Hp w0 fp w L) (hs : Sz P t 1) (hx : ev f x = .pointer (some ⟨g, a + off, none⟩)) (hy : ev f y = v) (h1 : v.cells = #[v]) (h2 : v.oneCell' = true) (hi : L[j]? = some (g, C tb ((rs.map enc).flatten ++ pad))) (ha : a = 0 + i * m) (hm : ∀ r ∈ rs, (enc r).length = m) (hr : rs[i]? = some r) (he : enc r' = (enc r).set off v) (ho : Nat.blt off m = true) (hrs : rs.set i r' = rs')
    (h : ∀ w', Hp w0 fp w' (L.set j (g, C tb ((rs'.map enc).flatten ++ pad))) → WL P n ops rest Q f w') : WL P n ops (⟨none, .store t x y, ty, pos, aft, none⟩ :: rest) Q f w := by
  subst hrs; exact o_storeRow r' hp hs hx hy h1 h2 hi ha hm hr he ho h
theorem gReg (id : Nat) {o : Array Oper} (h : W P n (.region id o true) Q f w) : W P n (.region id o true) Q f w := h
theorem rg_m (rid m : Nat) {Loud : List Nat} {C : World → Prop} {fuel : Nat} (h : RG rid P n ops Loud C fuel m Q f w) : RG rid P n ops Loud C fuel m Q f w := h
theorem rk_m (rid m : Nat) {Loud : List Nat} {C : World → Prop} {fuel : Nat} (h : RK rid P n ops Loud C fuel m Q f w) : RK rid P n ops Loud C fuel m Q f w := h
end
end Go.Proofs.Ytipjhbkjgidljaa.E
