/- Plain laws of the fair queues: what Take does, and that it ends. -/
import Derived.Test.YtipjhbkjgidljaaEs
namespace Go.Proofs.Ytipjhbkjgidljaa
open Go Go.RowKit E
structure FQ where
  w : Int
  d : Int
  ss : List ByteArray
structure FS where
  qs : List FQ
  at_ : Nat
  paid : Bool
/-- one visit: the next queue, or what is taken. -/
def fNext (s : FS) : Nat := (s.at_ + 1) % s.qs.length
def fD (qu : Int) (s : FS) (x : FQ) : Int := if s.paid then x.d else x.d + x.w * qu
def fStep (qu : Int) (s : FS) : FS ⊕ (FS × Nat × ByteArray) :=
  match s.qs[s.at_]? with
  | none => .inl s
  | some x =>
    match x.ss with
    | [] => .inl ⟨s.qs, fNext s, false⟩
    | h :: t =>
      if fD qu s x < (h.size : Int) then .inl ⟨s.qs.set s.at_ ⟨x.w, fD qu s x, h :: t⟩, fNext s, false⟩
      else if t = [] then .inr (⟨s.qs.set s.at_ ⟨x.w, 0, []⟩, fNext s, false⟩, s.at_, h)
      else .inr (⟨s.qs.set s.at_ ⟨x.w, fD qu s x - h.size, t⟩, s.at_, true⟩, s.at_, h)
def fRun (qu : Int) : Nat → FS → Option (FS × Nat × ByteArray)
  | 0, _ => none
  | n + 1, s => match fStep qu s with
    | .inl s' => fRun qu n s'
    | .inr r => some r
def FTook (qu : Int) (s : FS) (r : FS × Nat × ByteArray) : Prop := ∃ n, fRun qu n s = some r
theorem fRun_more {qu : Int} : ∀ {n : Nat} {s : FS} {r : FS × Nat × ByteArray}, fRun qu n s = some r → ∀ m, n ≤ m → fRun qu m s = some r
  | 0, _, _, h, _, _ => by cases h
  | n + 1, s, r, h, m, hm => by
    obtain ⟨m, rfl⟩ : ∃ k, m = k + 1 := ⟨m - 1, by omega⟩
    unfold fRun at h ⊢
    cases hs : fStep qu s with
    | inl s' => rw [hs] at h; exact fRun_more h m (by omega)
    | inr r' => rw [hs] at h; exact h
theorem FTook.one {qu : Int} {s : FS} {r r' : FS × Nat × ByteArray} (h : FTook qu s r) (h' : FTook qu s r') : r = r' := by
  obtain ⟨n, hn⟩ := h
  obtain ⟨m, hm⟩ := h'
  have h1 := fRun_more hn (n + m) (by omega)
  have h2 := fRun_more hm (n + m) (by omega)
  rw [h1] at h2
  exact Option.some.inj h2
/-- what a state leads to, its start leads to. -/
def FFrom (qu : Int) (s0 s : FS) : Prop := ∀ r, FTook qu s r → FTook qu s0 r
theorem FFrom.refl {qu : Int} {s : FS} : FFrom qu s s := fun _ h => h
theorem FFrom.step {qu : Int} {s0 s s' : FS} (h : FFrom qu s0 s) (hs : fStep qu s = .inl s') : FFrom qu s0 s' := fun r ⟨n, hn⟩ => h r ⟨n + 1, by unfold fRun; rw [hs]; exact hn⟩
theorem FFrom.done {qu : Int} {s0 s : FS} {r : FS × Nat × ByteArray} (h : FFrom qu s0 s) (hs : fStep qu s = .inr r) : FTook qu s0 r := h r ⟨1, by unfold fRun; rw [hs]⟩
structure FGood (qu : Int) (s : FS) : Prop where
  qu : 1 ≤ qu ∧ qu ≤ 1500
  len : 1 ≤ s.qs.length ∧ s.qs.length ≤ 8
  at_ : s.at_ < s.qs.length
  q : ∀ k x, s.qs[k]? = some x → (1 ≤ x.w ∧ x.w ≤ 100) ∧ (0 ≤ x.d ∧ x.d ≤ 151500) ∧ x.ss.length ≤ 64 ∧ (∀ y ∈ x.ss, y.size ≤ 1500) ∧ (¬ (k = s.at_ ∧ s.paid = true) → x.d ≤ 1500)
  paid : s.paid = true → ∀ x, s.qs[s.at_]? = some x → x.ss ≠ []
theorem wq_bd {w qu : Int} (h1 : 1 ≤ w ∧ w ≤ 100) (h2 : 1 ≤ qu ∧ qu ≤ 1500) : 1 ≤ w * qu ∧ w * qu ≤ 150000 := by
  have a : 1 * 1 ≤ w * qu := Int.mul_le_mul h1.1 h2.1 (by omega) (by omega)
  have b : w * qu ≤ 100 * 1500 := Int.mul_le_mul h1.2 h2.2 (by omega) (by omega)
  omega
theorem FGood.d {qu : Int} {s : FS} {x : FQ} (h : FGood qu s) (hx : s.qs[s.at_]? = some x) : 0 ≤ fD qu s x ∧ fD qu s x ≤ 151500 := by
  obtain ⟨hw, hd, _, _, hl⟩ := h.q _ _ hx
  have := wq_bd hw h.qu
  unfold fD
  split
  · exact hd
  · rename_i hp
    have := hl (fun hh => hp hh.2)
    omega
theorem fNext_lt {s : FS} (h : s.at_ < s.qs.length) : fNext s < s.qs.length := Nat.mod_lt _ (by omega)
theorem FGood.step {qu : Int} {s s' : FS} (h : FGood qu s) (hs : fStep qu s = .inl s') : FGood qu s' := by
  obtain ⟨x, hx⟩ : ∃ z, s.qs[s.at_]? = some z := ⟨_, List.getElem?_eq_getElem h.at_⟩
  unfold fStep at hs
  rw [hx] at hs
  dsimp only at hs
  obtain ⟨hw, hd, hl, hy, hb⟩ := h.q _ _ hx
  have hD := h.d hx
  split at hs
  · rename_i he
    injection hs with hs; subst hs
    refine ⟨h.qu, h.len, fNext_lt h.at_, fun k y hk => ?_, fun hh => by cases hh⟩
    obtain ⟨g1, g2, g3, g4, g5⟩ := h.q k y hk
    refine ⟨g1, g2, g3, g4, fun _ => ?_⟩
    by_cases hc : k = s.at_ ∧ s.paid = true
    · obtain ⟨rfl, hp⟩ := hc
      exact absurd he (h.paid hp x hx)
    · exact g5 hc
  · rename_i hd' tl he
    split at hs
    · rename_i hlt
      injection hs with hs; subst hs
      have h8 : hd'.size ≤ 1500 := hy hd' (by rw [he]; simp)
      refine ⟨h.qu, by simpa using h.len, by simpa using fNext_lt h.at_, fun k y hk => ?_, fun hh => by cases hh⟩
      simp only [List.getElem?_set] at hk
      split at hk
      · rename_i hka
        rw [if_pos h.at_] at hk
        injection hk with hk; subst hk
        exact ⟨hw, hD, by rw [← he]; exact hl, by rw [← he]; exact hy, fun _ => by dsimp only; omega⟩
      · rename_i hka
        obtain ⟨g1, g2, g3, g4, g5⟩ := h.q k y hk
        exact ⟨g1, g2, g3, g4, fun _ => g5 (fun hc => hka hc.1.symm)⟩
    · split at hs <;> cases hs
theorem FGood.done {qu : Int} {s s' : FS} {k : Nat} {y : ByteArray} (h : FGood qu s) (hs : fStep qu s = .inr (s', k, y)) : FGood qu s' ∧ s'.qs.length = s.qs.length ∧ k < s.qs.length := by
  obtain ⟨x, hx⟩ : ∃ z, s.qs[s.at_]? = some z := ⟨_, List.getElem?_eq_getElem h.at_⟩
  unfold fStep at hs
  rw [hx] at hs
  dsimp only at hs
  obtain ⟨hw, hd, hl, hy, hb⟩ := h.q _ _ hx
  have hD := h.d hx
  split at hs
  · cases hs
  · rename_i hd' tl he
    split at hs
    · cases hs
    · rename_i hlt
      split at hs
      · injection hs with hs; injection hs with h1 h2; injection h2 with h2 h3; subst h1 h2
        refine ⟨⟨h.qu, by simpa using h.len, by simpa using fNext_lt h.at_, fun k y hk => ?_, fun hh => by cases hh⟩, by simp, h.at_⟩
        simp only [List.getElem?_set] at hk
        split at hk
        · rw [if_pos h.at_] at hk
          injection hk with hk; subst hk
          exact ⟨hw, by dsimp only; omega, by simp, by simp, fun _ => by dsimp only; omega⟩
        · rename_i hka
          obtain ⟨g1, g2, g3, g4, g5⟩ := h.q k y hk
          exact ⟨g1, g2, g3, g4, fun _ => g5 (fun hc => hka hc.1.symm)⟩
      · rename_i hne
        injection hs with hs; injection hs with h1 h2; injection h2 with h2 h3; subst h1 h2
        refine ⟨⟨h.qu, by simpa using h.len, by simpa using h.at_, fun k y hk => ?_, fun _ y hk => ?_⟩, by simp, h.at_⟩
        · simp only [List.getElem?_set] at hk
          split at hk
          · rename_i hka
            rw [if_pos h.at_] at hk
            injection hk with hk; subst hk
            refine ⟨hw, by dsimp only; omega, ?_, fun z hz => hy z (by rw [he]; simp [hz]), fun hh => absurd ⟨hka.symm, rfl⟩ hh⟩
            rw [he] at hl; simp at hl; dsimp only; omega
          · rename_i hka
            obtain ⟨g1, g2, g3, g4, g5⟩ := h.q k y hk
            exact ⟨g1, g2, g3, g4, fun _ => g5 (fun hc => hka hc.1.symm)⟩
        · simp [h.at_] at hk
          subst hk; exact hne
/-- the measure of a visit, for a queue j that is not empty. -/
def fMu (j : Nat) (s : FS) : Nat := (if s.paid then s.qs.length + 1 else 0) + ((s.qs[j]?).elim 0 fun x => (2000 - x.d).toNat) * (s.qs.length + 1) + (j + s.qs.length - s.at_) % s.qs.length
theorem dist_next {j n a : Nat} (hj : j < n) (ha : a < n) (hne : a ≠ j) : (j + n - (a + 1) % n) % n + 1 = (j + n - a) % n := by
  by_cases h1 : a + 1 = n
  · rw [h1, Nat.mod_self]
    have e1 : (j + n - 0) % n = j := by rw [Nat.sub_zero, Nat.add_mod_right, Nat.mod_eq_of_lt hj]
    have e2 : (j + n - a) % n = j + 1 := by rw [show j + n - a = j + 1 by omega, Nat.mod_eq_of_lt (by omega)]
    rw [e1, e2]
  · rw [Nat.mod_eq_of_lt (show a + 1 < n by omega)]
    by_cases h2 : a < j
    · rw [show j + n - (a + 1) = (j - (a + 1)) + n by omega, show j + n - a = (j - a) + n by omega, Nat.add_mod_right, Nat.add_mod_right, Nat.mod_eq_of_lt (by omega), Nat.mod_eq_of_lt (by omega)]
      omega
    · rw [Nat.mod_eq_of_lt (show j + n - (a + 1) < n by omega), Nat.mod_eq_of_lt (show j + n - a < n by omega)]
      omega
theorem fMu_step {qu : Int} {s s' : FS} {j : Nat} {x : FQ} (h : FGood qu s) (hj : s.qs[j]? = some x) (hne : x.ss ≠ []) (hs : fStep qu s = .inl s') : fMu j s' < fMu j s ∧ ∃ x', s'.qs[j]? = some x' ∧ x'.ss ≠ [] := by
  have hjl : j < s.qs.length := (List.getElem?_eq_some_iff.1 hj).1
  have hn := fNext_lt h.at_
  have hm1 : (j + s.qs.length - fNext s) % s.qs.length < s.qs.length := Nat.mod_lt _ (by omega)
  obtain ⟨y, hx⟩ : ∃ z, s.qs[s.at_]? = some z := ⟨_, List.getElem?_eq_getElem h.at_⟩
  unfold fStep at hs
  rw [hx] at hs
  dsimp only at hs
  have hD := h.d hx
  obtain ⟨hw, hd, hl, hy, hb⟩ := h.q _ _ hx
  have hdn := dist_next hjl h.at_
  split at hs
  · rename_i he
    injection hs with hs; subst hs
    have hja : s.at_ ≠ j := by rintro rfl; rw [hx] at hj; injection hj with hj; subst hj; exact hne he
    refine ⟨?_, x, hj, hne⟩
    have := hdn hja
    unfold fMu
    simp only [hj, Option.elim_some]
    unfold fNext at *
    simp only [Bool.false_eq_true, if_false]
    split <;> omega
  · rename_i hd' tl he
    split at hs
    · rename_i hlt
      injection hs with hs; subst hs
      have h8 : hd'.size ≤ 1500 := hy hd' (by rw [he]; simp)
      by_cases hja : s.at_ = j
      · subst hja
        rw [hx] at hj; injection hj with hj; subst hj
        refine ⟨?_, ⟨y.w, fD qu s y, hd' :: tl⟩, by simp [h.at_], by simp⟩
        unfold fMu
        simp only [List.length_set, hx, Option.elim_some, List.getElem?_set, if_true, h.at_]
        unfold fNext at *
        have hwq := wq_bd hw h.qu
        have hm2 : (s.at_ + s.qs.length - (s.at_ + 1) % s.qs.length) % s.qs.length < s.qs.length := Nat.mod_lt _ (by omega)
        unfold fD at *
        cases hp : s.paid with
        | true =>
          rw [hp] at hD hlt
          simp only [if_true] at hD hlt ⊢
          simp only [Bool.false_eq_true, if_false] at *
          omega
        | false =>
          rw [hp] at hD hlt
          simp only [Bool.false_eq_true, if_false] at *
          have e : (2000 - (y.d + y.w * qu)).toNat + 1 ≤ (2000 - y.d).toNat := by omega
          have e2 := Nat.mul_le_mul_right (s.qs.length + 1) e
          rw [Nat.add_mul, Nat.one_mul] at e2
          omega
      · refine ⟨?_, x, by rw [List.getElem?_set, if_neg hja]; exact hj, hne⟩
        have := hdn hja
        unfold fMu
        simp only [List.length_set, List.getElem?_set, if_neg hja, hj, Option.elim_some]
        unfold fNext at *
        simp only [Bool.false_eq_true, if_false]
        split <;> omega
    · split at hs <;> cases hs
end Go.Proofs.Ytipjhbkjgidljaa
