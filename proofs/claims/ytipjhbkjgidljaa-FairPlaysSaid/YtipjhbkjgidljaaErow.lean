/- A step engine for walks: how the arguments of a law read: slices and structs of plain cells. -/
import Derived.Test.YtipjhbkjgidljaaEm
import Derived.ProofKit
import Derived.OpenShut
import Derived.ShutString
import Derived.ChangeOld
import Derived.Below
import Derived.Carry
import Derived.ChangeMaps5
import Derived.Lib.SmallJoins
import Derived.Deep.Slices
set_option linter.unusedVariables false
namespace Go.Proofs.Ytipjhbkjgidljaa.E
open Go Go.RowKit Go.ChangeShapes Go.WideShapes
inductive SK
  | int (k : IntKind)
  | bool
  | string
def SK.fits : SK → Value → Prop
  | .int k, v => ∃ n, v = .int k n ∧ (Lit.int k n).wf = true
  | .bool, v => ∃ b, v = .bool b
  | .string, v => ∃ s : ByteArray, v = .string s ∧ s.size ≤ maxLen
def Fits2 : List SK → List Value → Prop
  | [], cs => cs = []
  | k :: ks, cs => ∃ c r, cs = c :: r ∧ k.fits c ∧ Fits2 ks r
def goF (P : Program) (K : TypeId → Option (List SK)) (o : Nat) (l : List Field) : Option (List SK) :=
  match l with
  | [] => some []
  | f :: r => match K f.type, goF P K (o + P.cellsOf f.type) r with
    | some a, some b => if f.offset = o ∧ a.length = P.cellsOf f.type then some (a ++ b) else none
    | _, _ => none
def flat (P : Program) : Nat → TypeId → Option (List SK)
  | 0, _ => none
  | m + 1, t => match P.underlying t with
    | some .bool => some [.bool]
    | some (.int k) => some [.int k]
    | some .string => some [.string]
    | some (.struct fs) => match goF P (flat P m) 0 fs.toList with
      | some ks => if ks.length = P.cellsOf t then some ks else none
      | none => none
    | _ => none
theorem Fits2.append : ∀ {a b : List SK} {x y : List Value}, Fits2 a x → Fits2 b y → Fits2 (a ++ b) (x ++ y)
  | [], b, x, y, h, k => by simp only [Fits2] at h; subst h; simpa using k
  | s :: a, b, x, y, h, k => by
    obtain ⟨c, r, rfl, h1, h2⟩ := h
    exact ⟨c, r ++ y, rfl, h1, h2.append k⟩
theorem goF_fits {P : Program} {K : TypeId → Option (List SK)} {cs : List Value} : ∀ (l : List Field) (o : Nat) (ks : List SK), goF P K o l = some ks →
    (∀ f ∈ l, ∀ ks', K f.type = some ks' → Fits2 ks' ((cs.drop f.offset).take (P.cellsOf f.type))) → Fits2 ks ((cs.drop o).take ks.length)
  | [], o, ks, h, _ => by simp [goF] at h; subst h; simp [Fits2]
  | f :: r, o, ks, h, hf => by
    unfold goF at h
    cases h1 : K f.type with
    | none => rw [h1] at h; cases h
    | some a =>
      cases h2 : goF P K (o + P.cellsOf f.type) r with
      | none => rw [h1, h2] at h; cases h
      | some b =>
        rw [h1, h2] at h
        simp only at h
        split at h
        · rename_i hc
          injection h with h; subst h
          have e1 := hf f (by simp) a h1
          have e2 := goF_fits r _ b h2 fun f' hf' => hf f' (by simp [hf'])
          rw [hc.1, ← hc.2] at e1
          rw [← hc.2] at e2
          rw [List.length_append, List.take_add, List.drop_drop]
          exact e1.append e2
        · cases h
section
variable {H : Type} {enc : TypeId × Value → H} {P : Program} {w : World} {base : Nat} {spare : Nat → Bool} {held : Bool}
theorem flat_fits : ∀ (m : Nat) (t : TypeId) (ks : List SK) (fuel : Nat) (cs : List Value) (x : DataW H × List MemPlace), flat P m t = some ks → DataW.trod enc P w base spare held fuel t cs = some x → Fits2 ks cs
  | 0, _, _, _, _, _, h, _ => by cases h
  | m + 1, t, ks, fuel, cs, x, h, hx => by
    unfold flat at h
    cases hu : P.underlying t with
    | none => rw [hu] at h; cases h
    | some d =>
      rw [hu] at h
      cases d with
      | bool =>
        injection h with h; subst h
        obtain ⟨b, rfl, _⟩ := DataW.trod_bool hu hx
        exact ⟨_, _, rfl, ⟨b, rfl⟩, rfl⟩
      | int k =>
        injection h with h; subst h
        obtain ⟨n, rfl, _, hw⟩ := DataW.trod_int hu hx
        exact ⟨_, _, rfl, ⟨n, rfl, hw⟩, rfl⟩
      | string =>
        injection h with h; subst h
        obtain ⟨s, rfl, _, hs⟩ := DataW.trod_string hu hx
        exact ⟨_, _, rfl, ⟨s, rfl, hs⟩, rfl⟩
      | struct fs =>
        simp only at h
        cases hg : goF P (flat P m) 0 fs.toList with
        | none => rw [hg] at h; cases h
        | some ks' =>
          rw [hg] at h
          simp only at h
          split at h
          · rename_i hl
            injection h with h; subst h
            obtain ⟨xs, n, _, _, hcl, hxl, hfs⟩ := DataW.trod_struct hu hx
            have := goF_fits (P := P) (K := flat P m) (cs := cs) fs.toList 0 ks' hg (fun f hf ks2 hk => by
              obtain ⟨i, hi, rfl⟩ := List.getElem_of_mem hf
              have hi' : i < fs.size := by simpa using hi
              have h1 := hfs i fs[i] (by simp [hi'])
              have h2 : xs[i]? = some xs[i] := by simp [hxl, hi']
              rw [h2] at h1
              exact flat_fits m _ ks2 n _ _ hk (by simpa using h1))
            rw [List.drop_zero, hl, ← hcl, List.take_length] at this
            exact this
          · cases h
      | _ => cases h
theorem Fits2.length : ∀ {ks : List SK} {cs : List Value}, Fits2 ks cs → cs.length = ks.length
  | [], cs, h => by simp only [Fits2] at h; subst h; rfl
  | k :: ks, cs, h => by obtain ⟨c, r, rfl, _, h2⟩ := h; simp [h2.length]
theorem open_flat_slice {R : Type} [Inhabited R] {ec : R → List Value} {Ok : R → Prop} {t e : TypeId} {ks : List SK} {v : Value} {r : Reach} {b0 : Nat} {d : DataW H} {ps : List MemPlace} (ht : P.underlying t = some (.slice e)) (m : Nat) (hk : flat P m e = some ks) (hc : P.cellsOf e = ks.length)
    (dec : ∀ cs, Fits2 ks cs → ∃ r, ec r = cs ∧ Ok r) (hval : Value.okWide P w r b0 t v) (hd : DataW.Trod enc P w base spare held t v d ps) :
    ∃ p n c rs, v = .slice p n c ∧ SlR ks.length ec w p n rs ∧ (∀ r ∈ rs, Ok r) ∧ n ≤ c ∧ c ≤ maxLen := by
  obtain ⟨a, len, cap, rfl⟩ := okWide_slice ht hval
  obtain ⟨fuel, hf⟩ := hd
  rcases Deep.open_slice ht hf with ⟨h0, _⟩ | ⟨a', len', cap', m', n, D, Pl, h1, hb, hl, hm, hmm, _, hx⟩
  · simp [Value.cells] at h0
    obtain ⟨rfl, rfl, rfl⟩ := h0
    exact ⟨none, 0, 0, [], rfl, ⟨rfl, fun i r h => by simp at h⟩, by simp, Nat.le_refl _, Nat.zero_le _⟩
  · simp [Value.cells] at h1
    obtain ⟨rfl, rfl, rfl⟩ := h1
    have hlm : len ≤ m' := by rw [hmm]; split <;> omega
    obtain ⟨F, hF⟩ := Deep.choose_lt (α := R) (n := len) (p := fun i r => Ok r ∧ At w (a'.add (i * ks.length)) (ec r)) (fun i hi => by
      obtain ⟨cs', h1, h2⟩ := hx i (by omega)
      obtain ⟨r, hr, ho⟩ := dec cs' (flat_fits m e ks n cs' _ hk h2)
      refine ⟨r, ho, fun j v hv => ?_⟩
      rw [hc] at h1
      obtain ⟨_, hlen, hcell⟩ := World.cells?_some h1
      rw [hr] at hv
      have hj : j < ks.length := by rw [← hlen]; exact (List.getElem?_eq_some_iff.1 hv).1
      rw [hcell j hj]; exact hv)
    refine ⟨some a', len, cap, (List.range len).map F, rfl, ⟨by simp, fun i r hi => ?_⟩, ?_, hl, hm⟩
    · have hlt : i < len := by have := (List.getElem?_eq_some_iff.1 hi).1; simpa using this
      simp [hlt] at hi
      subst hi
      exact ⟨a', rfl, (hF i hlt).2⟩
    · intro r hr
      obtain ⟨i, hi, rfl⟩ := List.mem_map.1 hr
      exact (hF i (List.mem_range.1 hi)).1
theorem open_flat_agg {R : Type} {ec : R → List Value} {Ok : R → Prop} {t : TypeId} {fs : Array Field} {ks : List SK} {v : Value} {r : Reach} {b0 : Nat} {d : DataW H} {ps : List MemPlace} (ht : P.underlying t = some (.struct fs)) (m : Nat) (hk : flat P m t = some ks)
    (dec : ∀ cs, Fits2 ks cs → ∃ r, ec r = cs ∧ Ok r) (hval : Value.okWide P w r b0 t v) (hd : DataW.Trod enc P w base spare held t v d ps) :
    ∃ r, v = .agg (ec r).toArray ∧ Ok r := by
  obtain ⟨cs, rfl, _⟩ := okWide_struct ht hval
  obtain ⟨fuel, hf⟩ := hd
  obtain ⟨r, hr, ho⟩ := dec _ (flat_fits m t ks fuel _ _ hk hf)
  refine ⟨r, ?_, ho⟩
  rw [hr]; rfl
theorem wf64 {n : Int} (h : (Lit.int .i64 n).wf = true) : -9223372036854775808 ≤ n ∧ n ≤ 9223372036854775807 := by
  simp [Lit.wf, IntKind.min, IntKind.max, IntKind.signed, IntKind.bits] at h; omega
theorem wf32 {n : Int} (h : (Lit.int .u32 n).wf = true) : 0 ≤ n ∧ n ≤ 4294967295 := by
  simp [Lit.wf, IntKind.min, IntKind.max, IntKind.signed, IntKind.bits] at h; omega
theorem trod_lt {t : TypeId} {v : Value} {d : DataW H} {p : List MemPlace} (h : DataW.Trod enc P w base spare held t v d p) : ∀ x ∈ p, x.block < w.heap.size := by
  obtain ⟨m, hm⟩ := h
  exact DataW.trod_lt m _ _ _ hm
end
end Go.Proofs.Ytipjhbkjgidljaa.E
