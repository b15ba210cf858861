/- A step engine for walks: loops and cuts. -/
import Derived.Test.YtipjhbkjgidljaaEops
import Derived.Deep.LoopGhost
set_option linter.unusedVariables false
namespace Go.Proofs.Ytipjhbkjgidljaa.E
open Go Go.RowKit
def updAll : List (Nat × Value) → Fr → Fr
  | [], f => f
  | (i, v) :: r, f => upd (updAll r f) i v
def over (S : List Nat) (f g : Fr) : Fr := fun i => cond (S.contains i) (g i) (f i)
def Agree (S : List Nat) (f f' : Fr) : Prop := ∀ i, S.contains i = false → f' i = f i
def Fits (f : Fr) : List (Nat × Value) → Prop
  | [] => True
  | (i, v) :: r => f i = v ∧ Fits f r
def keysIn (S : List Nat) (l : List (Nat × Value)) : Bool := l.all fun p => S.contains p.1
theorem tup2 {a b a' b' : Value} (h : a = a') (k : b = b') : Value.tuple #[a, b] = .tuple #[a', b'] := by rw [h, k]
theorem tup3 {a b c a' b' c' : Value} (h : a = a') (k : b = b') (l : c = c') : Value.tuple #[a, b, c] = .tuple #[a', b', c'] := by rw [h, k, l]
theorem vi {k : IntKind} {a b : Int} (h : a = b) : Value.int k a = .int k b := by rw [h]
theorem vb {a b : Bool} (h : a = b) : Value.bool a = .bool b := by rw [h]
theorem law_true {P : Program} {fid : FuncId} {args : List Value} {w : World} (h : Ret P fid args w fun v w' => v = .bool true ∧ Below w.heap.size w w') : Calls P fid args.toArray w fun e w' => e = .returned (.bool true) ∧ Below w.heap.size w w' :=
  Calls.mono h fun e w' ⟨v, he, hv, hb⟩ => ⟨by rw [he, hv], hb⟩
section
variable {S : List Nat} {f f' g : Fr}
theorem agree_upd {d : Nat} {v : Value} (hd : S.contains d = true) (h : Agree S f f') : Agree S f (upd f' d v) := fun i hi => by
  have hne : i ≠ d := by rintro rfl; rw [hd] at hi; cases hi
  rw [upd_other f' v hne]; exact h i hi
theorem agree_refl : Agree S f f := fun _ _ => rfl
theorem agree_over : Agree S f (over S f g) := fun i hi => by simp only [over, hi, cond_false]
theorem agree_base : ∀ {vs : List (Nat × Value)}, keysIn S vs = true → Agree S f (updAll vs (over S f g))
  | [], _ => agree_over
  | (i, v) :: r, h => by
    simp only [keysIn, List.all_cons, Bool.and_eq_true] at h
    exact agree_upd h.1 (agree_base h.2)
theorem agree_overT {S' : List Nat} (hs : S'.all (fun x => S.contains x) = true) (h : Agree S f f') : Agree S f (over S' f' g) := fun i hi => by
  have h1 : S'.contains i = false := by
    cases hc : S'.contains i with
    | false => rfl
    | true =>
      have := List.all_eq_true.1 hs i (List.contains_iff_mem.1 hc)
      rw [hi] at this; cases this
  simp only [over, h1, cond_false]; exact h i hi
theorem agree_baseT {S' : List Nat} : ∀ {vs : List (Nat × Value)}, keysIn S vs = true → S'.all (fun x => S.contains x) = true → Agree S f f' → Agree S f (updAll vs (over S' f' g))
  | [], _, hs, h => agree_overT hs h
  | (i, v) :: r, hk, hs, h => by
    simp only [keysIn, List.all_cons, Bool.and_eq_true] at hk
    exact agree_upd hk.1 (agree_baseT hk.2 hs h)
theorem over_self (h : Agree S f f') : over S f f' = f' := funext fun i => by
  unfold over
  cases hi : S.contains i with
  | true => rfl
  | false => exact (h i hi).symm
theorem updAll_self : ∀ {vs : List (Nat × Value)} {F : Fr}, Fits F vs → updAll vs F = F
  | [], _, _ => rfl
  | (i, v) :: r, F, h => by
    simp only [Fits] at h
    simp only [updAll, updAll_self h.2]
    rw [← h.1, upd_self]
theorem base_self {vs : List (Nat × Value)} (h : Agree S f f') (hf : Fits f' vs) : updAll vs (over S f f') = f' := by
  rw [over_self h]; exact updAll_self hf
end
section
variable {P : Program} {n : Nat} {Q : Exit → Fr → World → Prop} {f : Fr} {w w0 : World} {fp : List Nat}
/-- what a round (or a piece) leaves: frames that agree outside S, the listed slots, the known blocks, a fact. -/
structure Left {σ : Type} (S : List Nat) (f : Fr) (vals : σ → List (Nat × Value)) (w0 : World) (fp : List Nat) (Ls : σ → Mem) (Pr : σ → Prop) (s : σ) (f' : Fr) (w' : World) : Prop where
  agree : Agree S f f'
  fits : Fits f' (vals s)
  hp : Hp w0 fp w' (Ls s)
  pr : Pr s
theorem W_loopS {σ : Type} (S : List Nat) (vals : σ → List (Nat × Value)) (Ls : σ → Mem) (Pr : σ → Prop) (mu : σ → Nat) {c : Code} (s0 : σ) (h0 : Fits f (vals s0)) (hp0 : Hp w0 fp w (Ls s0)) (hP0 : Pr s0)
    (round : ∀ s g w, Hp w0 fp w (Ls s) → Pr s → W P n c (thn (fun f' w' => ∃ s', Left S f vals w0 fp Ls Pr s' f' w' ∧ mu s' < mu s) Q) (updAll (vals s) (over S f g)) w) : W P n (.loop c) Q f w := fun a ha => by
  refine wp_loop_ghost (fun m a w => ∃ f' s, Rep n f' a ∧ Left S f vals w0 fp Ls Pr s f' w ∧ mu s = m) (mu s0) ⟨f, s0, ha, ⟨fun i _ => rfl, h0, hp0, hP0⟩, rfl⟩ ?_
  rintro m a' w' ⟨f', s, hf', hl, rfl⟩
  have hr := round s f' w' hl.hp hl.pr
  rw [base_self hl.agree hl.fits] at hr
  refine wp_mono (hr a' hf') ?_
  rintro e a2 w2 ⟨f2, hf2, hq⟩
  cases e with
  | normal => obtain ⟨s', hl', hlt⟩ := hq; exact ⟨mu s', hlt, f2, s', hf2, hl', rfl⟩
  | _ => exact ⟨f2, hf2, hq⟩
/-- a piece that is left in one form, then the rest. -/
theorem W_cutS {σ : Type} (S : List Nat) (vals : σ → List (Nat × Value)) (Ls : σ → Mem) (Pr : σ → Prop) {x y : Code}
    (h : W P n x (thn (fun f' w' => ∃ s, Left S f vals w0 fp Ls Pr s f' w') Q) f w)
    (k : ∀ s g w, Hp w0 fp w (Ls s) → Pr s → W P n y Q (updAll (vals s) (over S f g)) w) : W P n (.seq x y) Q f w :=
  W_cut _ h fun f' w' ⟨s, hl⟩ => by
    have := k s f' w' hl.hp hl.pr
    rwa [base_self hl.agree hl.fits] at this
end
end Go.Proofs.Ytipjhbkjgidljaa.E
