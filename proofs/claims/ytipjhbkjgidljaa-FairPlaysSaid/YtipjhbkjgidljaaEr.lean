/- A step engine for walks: regions that draw their order and write. -/
import Derived.Test.YtipjhbkjgidljaaEq
import Derived.OrdersHeld
set_option linter.unusedVariables false
set_option linter.unusedSimpArgs false
namespace Go.Proofs.Ytipjhbkjgidljaa.E
open Go Go.RowKit
section
variable {P : Program} {ops : Array Oper} {Q : Exit → Act → World → Prop} {md : Region.Mode} {S : Array Bool → World → Prop}
/-- whatever order comes; behind each operation S is told of what has been carried out and of the world. -/
def wpG (P : Program) (md : Region.Mode) (ops : Array Oper) (Q : Exit → Act → World → Prop) (S : Array Bool → World → Prop) (fuel : Nat) : Array Bool → Act → World → Prop :=
  Nat.rec (fun listed a w => Region.ready md ops listed = [] ∧ Q .normal a w)
    (fun _ next listed a w => (Region.ready md ops listed = [] → Q .normal a w) ∧ ∀ i ∈ Region.ready md ops listed, wpOp P ops Q i (fun a' w' => S (listed.setIfInBounds i true) w' ∧ next (listed.setIfInBounds i true) a' w') a w) fuel
theorem wpG_succ {fuel : Nat} {listed : Array Bool} {a : Act} {w : World} : wpG P md ops Q S (fuel + 1) listed a w = ((Region.ready md ops listed = [] → Q .normal a w) ∧ ∀ i ∈ Region.ready md ops listed, wpOp P ops Q i (fun a' w' => S (listed.setIfInBounds i true) w' ∧ wpG P md ops Q S fuel (listed.setIfInBounds i true) a' w') a w) := rfl
theorem wpG_any (fuel : Nat) : ∀ (listed : Array Bool) (a : Act) (w : World), wpG P md ops Q S fuel listed a w → wpAny P md ops Q fuel listed a w := by
  induction fuel with
  | zero => intro listed a w h; exact h
  | succ k ih => intro listed a w h; exact ⟨h.1, fun i hi => wpOp_mono (fun a' w' h' => ih _ a' w' h'.2) (h.2 i hi)⟩
/-- all of D wait for number i. -/
def Waits (md : Region.Mode) (ops : Array Oper) (listed : Array Bool) (i : Nat) (D : List Nat) : Prop :=
  ∀ d ∈ D, listed.getD d true = false ∧ ∃ o, ops[d]? = some o ∧ ∃ e ∈ o.after, Region.binds md e = true ∧ (e.on = i ∨ e.on ∈ D)
theorem getD_ft {listed : Array Bool} {j : Nat} (h : listed.getD j true = false) : listed.getD j false = false := by
  rcases Nat.lt_or_ge j listed.size with h' | h'
  · simp [h'] at h ⊢; exact h
  · simp [Array.getElem?_eq_none h'] at h
theorem Waits.not_ready {listed : Array Bool} {i j : Nat} {D : List Nat} (h : Waits md ops listed i D) (hi : listed.getD i true = false) (hj : j ∈ Region.ready md ops listed) : j ∉ D := by
  intro hd
  obtain ⟨_, o, ho, e, he, hb, hor⟩ := h j hd
  obtain ⟨_, o', ho', hall⟩ := mem_ready.1 hj
  rw [ho] at ho'; cases ho'
  have h1 := hall e he hb
  rcases hor with hor | hor
  · rw [hor, getD_ft hi] at h1; cases h1
  · rw [getD_ft (h _ hor).1] at h1; cases h1
theorem Waits.step {listed : Array Bool} {i j : Nat} {D : List Nat} (h : Waits md ops listed i D) (hj : j ∉ D) : Waits md ops (listed.setIfInBounds j true) i D := fun d hd => by
  obtain ⟨h1, h2⟩ := h d hd
  refine ⟨?_, h2⟩
  rw [getD_set_ne true (by rintro rfl; exact hj hd)]; exact h1
theorem wpG_first {i : Nat} {oi : Oper} {v : Value} {C : World → Prop} {D : List Nat} (hi : ops[i]? = some oi) (hsel : ∀ (j : Nat) (o : Oper) cs b, ops[j]? = some o → o.op ≠ .select cs b)
    (hQ : ∀ c a w, Q (.panic c) (a.put oi.dst v) w → Q (.panic c) a w) (hC : ∀ listed w, (∀ d ∈ D, listed.getD d true = false) → S listed w → C w)
    (hS1 : ∀ listed w, S (listed.setIfInBounds i true) w → S listed w) (hS2 : ∀ listed w, S listed w → S (listed.setIfInBounds i true) w) :
    ∀ (fuel : Nat) (listed : Array Bool) (a : Act) (w : World),
      (∀ j oj, ops[j]? = some oj → j ≠ i → listed.getD j true = false → (∀ e ∈ oj.after, Region.binds md e = true → e.on ≠ i) → oi.apart ops oj = true) →
      i ∈ Region.ready md ops listed → Waits md ops listed i D → YieldsIf P ops C oi v a → S listed w →
      wpG P md ops Q S fuel (listed.setIfInBounds i true) (a.put oi.dst v) w → wpG P md ops Q S (fuel + 1) listed a w := by
  intro fuel
  induction fuel with
  | zero =>
    intro listed a w _ hr hD hy hS H
    rw [wpG_succ]
    refine ⟨fun h => (by rw [h] at hr; cases hr), fun j hj => ?_⟩
    by_cases e : j = i
    · subst e; exact hy.wpOp hi (hC _ _ (fun d hd => (hD d hd).1) hS) ⟨hS2 _ _ hS, H⟩
    · have := ready_mono hj e
      rw [H.1] at this; cases this
  | succ fuel ih =>
    intro listed a w hfree hr hD hy hS H
    have hiu := (mem_ready.1 hr).1
    rw [wpG_succ]
    refine ⟨fun h => (by rw [h] at hr; cases hr), fun j hj => ?_⟩
    by_cases e : j = i
    · subst e; exact hy.wpOp hi (hC _ _ (fun d hd => (hD d hd).1) hS) ⟨hS2 _ _ hS, H⟩
    · obtain ⟨hju, oj, hoj, hall⟩ := mem_ready.1 hj
      have hnot : ∀ e ∈ oj.after, Region.binds md e = true → e.on ≠ i := fun e he hb heq => by
        have h1 := hall e he hb
        rw [heq, getD_ft hiu] at h1; cases h1
      have hjD := hD.not_ready hiu hj
      refine wpOp_mono ?_ (wpOp_putIf hoj (hfree j oj hoj e hju hnot) (fun cs b => hsel i oi cs b hi) (fun cs b => hsel j oj cs b hoj) hQ hy (H.2 j (ready_mono hj e)))
      rintro a' w' ⟨hy', hs', hg'⟩
      rw [Array.setIfInBounds_comm _ _ (fun h => e h.symm)] at hs' hg'
      refine ⟨hS1 _ _ hs', ih _ a' w' ?_ (ready_mono hr (fun h => e h.symm)) (hD.step hjD) hy' (hS1 _ _ hs') hg'⟩
      intro k ok hk hki hun hno
      refine hfree k ok hk hki ?_ hno
      by_cases hjk : j = k
      · subst hjk; exact hju
      · rw [getD_set_ne true hjk] at hun; exact hun
end

/-- until a loud operation has come, the world meets C. -/
def SG (Loud : List Nat) (C : World → Prop) (listed : Array Bool) (w : World) : Prop := (∀ l ∈ Loud, listed.getD l true = false) → C w
theorem SG.s1 {Loud : List Nat} {C : World → Prop} {i : Nat} (hi : Loud.contains i = false) (listed : Array Bool) (w : World) (h : SG Loud C (listed.setIfInBounds i true) w) : SG Loud C listed w := fun hl => h fun l hm => by
  rw [getD_set_ne true (by rintro rfl; simp at hi; exact hi hm)]; exact hl l hm
theorem SG.s2 {Loud : List Nat} {C : World → Prop} {i : Nat} (listed : Array Bool) (w : World) (h : SG Loud C listed w) : SG Loud C (listed.setIfInBounds i true) w := fun hl => h fun l hm => by
  have h1 := hl l hm
  by_cases e : i = l
  · subst e
    rcases Nat.lt_or_ge i listed.size with h' | h'
    · simp [h'] at h1
    · simp [Array.getElem?_eq_none h'] at h1
  · rwa [getD_set_ne true e] at h1
def plainOp : Op → Bool
  | .move _ | .assign _ | .pick .. | .load .. | .binOp .. | .unOp .. | .convert .. | .makeFunc .. | .slice .. | .fieldAddr .. | .field .. | .indexAddr .. | .index .. | .lookup .. | .extract .. | .build .. | .makeInterface .. | .nilCheck _ | .typeAssert .. => true
  | .call { callee := .builtin b, .. } => match b with | .len | .cap | .min | .max => true | _ => false
  | _ => false
theorem bind_noEnter {P : Program} {α : Type} {s : Sem α} {k : α → Sem Next} {w w' : World} {f : FuncId} {args : Array Value} (hk : ∀ a w, (k a).run P w ≠ .ok (.enter f args) w') : (s >>= k).run P w ≠ .ok (.enter f args) w' := by
  rw [Sem.run_bind]
  cases h : s.run P w with
  | ok a w1 => exact hk a w1
  | halt x w1 => intro h; cases h
theorem plain_noEnter {P : Program} {o : Oper} (ho : plainOp o.op = true) (ρ : Operand → Value) {w w' : World} {f : FuncId} {args : Array Value} : (execOp ρ o).run P w ≠ .ok (.enter f args) w' := by
  obtain ⟨dst, op, ty, pos, aft, g⟩ := o
  cases op <;> (try (cases ho; done)) <;> simp only [execOp] <;> (try (first | (exact bind_noEnter fun a w => by intro h; cases h) | (intro h; cases h)))
  case nilCheck x =>
    split <;> (try (intro h; cases h; done))
    split
    · intro h; cases h
    · refine bind_noEnter fun a w => ?_
      refine bind_noEnter fun b w => ?_
      split
      · exact bind_noEnter fun _ _ => by intro h; cases h
      · intro h; cases h
    · intro h; cases h
  case call c =>
    obtain ⟨cal, xs, ats⟩ := c
    cases cal <;> (try (cases ho; done))
    rename_i b
    cases b <;> (try (cases ho; done))
    case len => exact (bind_noEnter fun a w => (by intro h; cases h) : (builtin .len ats ty _ (xs.map ρ)).run P _ ≠ _)
    case cap => exact (bind_noEnter fun a w => (by intro h; cases h) : (builtin .cap ats ty _ (xs.map ρ)).run P _ ≠ _)
    case min => exact (bind_noEnter fun a w => (by intro h; cases h) : (builtin .min ats ty _ (xs.map ρ)).run P _ ≠ _)
    case max => exact (bind_noEnter fun a w => (by intro h; cases h) : (builtin .max ats ty _ (xs.map ρ)).run P _ ≠ _)
theorem plain_noSkip {P : Program} {o : Oper} (ho : plainOp o.op = true) (ρ : Operand → Value) {w w' : World} : (execOp ρ o).run P w ≠ .ok .skip w' := by
  obtain ⟨dst, op, ty, pos, aft, g⟩ := o
  have bn : ∀ {α : Type} {s : Sem α} {k : α → Sem Next} {w w' : World}, (∀ a w, (k a).run P w ≠ .ok .skip w') → (s >>= k).run P w ≠ .ok .skip w' := by
    intro α s k w w' hk
    rw [Sem.run_bind]
    cases h : s.run P w with
    | ok a w1 => exact hk a w1
    | halt x w1 => intro h; cases h
  cases op <;> (try (cases ho; done)) <;> simp only [execOp] <;> (try (first | (exact bn fun a w => by intro h; cases h) | (intro h; cases h)))
  case nilCheck x =>
    split <;> (try (intro h; cases h; done))
    split
    · intro h; cases h
    · refine bn fun a w => ?_
      refine bn fun b w => ?_
      split
      · exact bn fun _ _ => by intro h; cases h
      · intro h; cases h
    · intro h; cases h
  case call c =>
    obtain ⟨cal, xs, ats⟩ := c
    cases cal <;> (try (cases ho; done))
    rename_i b
    cases b <;> (try (cases ho; done))
    case len => exact (bn fun a w => (by intro h; cases h) : (builtin .len ats ty _ (xs.map ρ)).run P _ ≠ _)
    case cap => exact (bn fun a w => (by intro h; cases h) : (builtin .cap ats ty _ (xs.map ρ)).run P _ ≠ _)
    case min => exact (bn fun a w => (by intro h; cases h) : (builtin .min ats ty _ (xs.map ρ)).run P _ ≠ _)
    case max => exact (bn fun a w => (by intro h; cases h) : (builtin .max ats ty _ (xs.map ρ)).run P _ ≠ _)
def ml (N m : Nat) : Array Bool := ((List.range N).map fun i => Nat.testBit m i).toArray
def NoP (Q : Exit → Fr → World → Prop) : Prop := ∀ f w, (∀ c, ¬ Q (.panic c) f w) ∧ ¬ Q .outgrown f w
theorem NoP.post {P : Program} {fn : Func} {R : Ending → World → Prop} : NoP (post P fn R) := fun f w => ⟨fun c h => h, fun h => h⟩
theorem NoP.thn {next : Fr → World → Prop} {Q : Exit → Fr → World → Prop} (h : NoP Q) : NoP (E.thn next Q) := fun f w => ⟨fun c => (h f w).1 c, (h f w).2⟩
theorem NoP.inB {id : Nat} {Q : Exit → Fr → World → Prop} (h : NoP Q) : NoP (E.inB id Q) := fun f w => ⟨fun c => (h f w).1 c, (h f w).2⟩
/-- from here on, whatever order comes. -/
def RG (rid : Nat) (P : Program) (n : Nat) (ops : Array Oper) (Loud : List Nat) (C : World → Prop) (fuel m : Nat) (Q : Exit → Fr → World → Prop) (f : Fr) (w : World) : Prop :=
  SG Loud C (ml ops.size m) w → ∀ a, Rep n f a → wpG P .any ops (lift n Q) (SG Loud C) fuel (ml ops.size m) a w
/-- behind a loud operation. -/
def RK (rid : Nat) (P : Program) (n : Nat) (ops : Array Oper) (Loud : List Nat) (C : World → Prop) (fuel m : Nat) (Q : Exit → Fr → World → Prop) (f : Fr) (w : World) : Prop := SG Loud C (ml ops.size m) w ∧ RG rid P n ops Loud C fuel m Q f w
def anyLoud (N m : Nat) (Loud : List Nat) : Bool := Loud.any fun l => (ml N m).getD l true
section
variable {rid : Nat} {P : Program} {n : Nat} {ops : Array Oper} {Q : Exit → Fr → World → Prop} {f : Fr} {w w0 : World} {fp : List Nat} {L : Mem} {Loud D : List Nat} {C : World → Prop} {fuel m m' i j m2 : Nat} {o o2 : Oper}
theorem rg_id (h : RG rid P n ops Loud C fuel m Q f w) : RG rid P n ops Loud C fuel m Q f w := h
theorem rk_id (h : RK rid P n ops Loud C fuel m Q f w) : RK rid P n ops Loud C fuel m Q f w := h
theorem RK_hp (h1 : C w) (h : RG rid P n ops Loud C fuel m Q f w) : RK rid P n ops Loud C fuel m Q f w := ⟨fun _ => h1, h⟩
theorem RK_no (h1 : anyLoud ops.size m Loud = true) (h : RG rid P n ops Loud C fuel m Q f w) : RK rid P n ops Loud C fuel m Q f w := And.intro (fun hl => by
  obtain ⟨l, hl1, hl2⟩ := List.any_eq_true.1 h1
  rw [hl l hl1] at hl2
  cases hl2) h
theorem ml_zero (N : Nat) : ml N 0 = Array.replicate N false := by
  unfold ml
  apply Array.ext'
  simp [List.map_const']
theorem W_regionG {id : Nat} {l : List Oper} (Loud : List Nat) (hp : Hp w0 fp w L) (hm : P.follows .mixedOrders = true) (h : ∀ w', Hp w0 fp w' L → RG id P n l.toArray Loud (fun w => Hp w0 fp w L) l.length 0 Q f w') : W P n (.region id l.toArray true) Q f w := fun a ha =>
  wp_region_any hm (by
    have hp' : Hp w0 fp { w with drawn := w.drawn + 1 } L := ⟨hp.os, hp.tape, hp.output, hp.size, hp.old, hp.blk, hp.own, hp.nd⟩
    have := wpG_any _ _ _ _ (h _ hp' (fun _ => hp') a ha)
    rw [ml_zero] at this
    simpa using this)
theorem quiet_yields {o : Oper} {a : Act} {Kq : Fr → Prop} (ho : plainOp o.op = true) (h : wpQuiet P ops C (fun a' => ∃ f', Rep n f' a' ∧ Kq f') [o] a) : ∃ v f', YieldsIf P ops C o v a ∧ Rep n f' (a.put o.dst v) ∧ Kq f' := by
  unfold wpQuiet at h
  by_cases hw : Region.wanted o (yielded ops a.tmps) = true
  · rw [if_pos hw] at h
    obtain ⟨v, h1, f', h2, h3⟩ := h
    refine ⟨v, f', .inl ⟨hw, fun w hc => ?_⟩, h2, h3⟩
    have h4 := h1 w hc
    unfold Oper.quietAt at h4
    cases hr : (execOp a.eval o).run P w with
    | ok x w' =>
      rw [hr] at h4
      cases x with
      | value u => obtain ⟨rfl, rfl⟩ := h4; rfl
      | enter g args => exact absurd hr (plain_noEnter ho _)
      | skip => exact absurd hr (plain_noSkip ho _)
      | _ => exact h4.elim
    | halt x w' => rw [hr] at h4; exact h4.elim
  · rw [if_neg hw] at h
    obtain ⟨f', h2, h3⟩ := h
    exact ⟨undef, f', .inr ⟨by simpa using hw, rfl⟩, h2, h3⟩
theorem RG_take {C' : World → Prop} (hC : ∀ listed w, (∀ d ∈ D, listed.getD d true = false) → SG Loud C listed w → C' w) (hi : ops[i]? = some o) (ho : plainOp o.op = true) (hs : Region.noSelect ops = true) (hf : Region.free .any ops (ml ops.size m) i = true)
    (hr : (Region.ready .any ops (ml ops.size m)).contains i = true) (hset : (ml ops.size m).setIfInBounds i true = ml ops.size m') (hil : Loud.contains i = false) (hD : Waits .any ops (ml ops.size m) i D) (hQ : NoP Q)
    (h : QL P n ops C' [o] (fun f' => RG rid P n ops Loud C fuel m' Q f' w) f) : RG rid P n ops Loud C (fuel + 1) m Q f w := fun hS a ha => by
  obtain ⟨v, f', hy, hf', hk⟩ := quiet_yields ho (h a ha)
  refine wpG_first (C := C') (D := D) hi (Region.noSelect_spec hs) (fun c a w hh => ?_) hC (SG.s1 hil) (SG.s2) fuel _ a w (Region.free_spec hi hf) (by simpa using hr) hD hy hS ?_
  · obtain ⟨f1, _, hq⟩ := hh
    exact ((hQ f1 w).1 c hq).elim
  · rw [hset]
    exact hk (hset ▸ SG.s2 _ _ hS) _ hf'
theorem RG_pure (i m' : Nat) (hi : ops[i]? = some o) (ho : plainOp o.op = true) (hs : Region.noSelect ops = true) (hf : Region.free .any ops (ml ops.size m) i = true)
    (hr : (Region.ready .any ops (ml ops.size m)).contains i = true) (hset : (ml ops.size m).setIfInBounds i true = ml ops.size m') (hil : Loud.contains i = false) (hQ : NoP Q)
    (h : QL P n ops (fun _ => True) [o] (fun f' => RG rid P n ops Loud C fuel m' Q f' w) f) : RG rid P n ops Loud C (fuel + 1) m Q f w :=
  RG_take (D := []) (C' := fun _ => True) (fun _ _ _ _ => trivial) hi ho hs hf hr hset hil (fun d hd => by cases hd) hQ h
def waitsB (ops : Array Oper) (listed : Array Bool) (i : Nat) (D : List Nat) : Bool :=
  D.all fun d => !listed.getD d true && match ops[d]? with | some o => o.after.any (fun e => Region.binds .any e && (e.on == i || D.contains e.on)) | none => false
theorem waits_of {listed : Array Bool} (h : waitsB ops listed i D = true) : Waits .any ops listed i D := fun d hd => by
  have h1 := List.all_eq_true.1 h d hd
  simp only [Bool.and_eq_true, Bool.not_eq_true'] at h1
  refine ⟨h1.1, ?_⟩
  cases ho : ops[d]? with
  | none => rw [ho] at h1; cases h1.2
  | some o =>
    rw [ho] at h1
    obtain ⟨e, he, hb⟩ := Array.any_eq_true'.1 h1.2
    simp only [Bool.and_eq_true, Bool.or_eq_true, beq_iff_eq, List.contains_iff_mem] at hb
    exact ⟨o, rfl, e, he, hb.1, hb.2⟩
theorem RG_load (i m' : Nat) (D : List Nat) (hi : ops[i]? = some o) (ho : plainOp o.op = true) (hs : Region.noSelect ops = true) (hf : Region.free .any ops (ml ops.size m) i = true)
    (hr : (Region.ready .any ops (ml ops.size m)).contains i = true) (hset : (ml ops.size m).setIfInBounds i true = ml ops.size m') (hil : Loud.contains i = false) (hD : waitsB ops (ml ops.size m) i D = true) (hLD : (Loud.all fun l => D.contains l) = true) (hQ : NoP Q)
    (h : QL P n ops C [o] (fun f' => RG rid P n ops Loud C fuel m' Q f' w) f) : RG rid P n ops Loud C (fuel + 1) m Q f w :=
  RG_take (C' := C) (fun listed w hd hS => hS fun l hl => hd l (by simpa using List.all_eq_true.1 hLD l hl)) hi ho hs hf hr hset hil (waits_of hD) hQ h
theorem list_op {i : Nat} {o : Oper} {a : Act} {w : World} {next : Fr → World → Prop} {S : World → Prop} (hQ : NoP Q) (hi : ops[i]? = some o) (h : WL P n ops [o] (thn next Q) f w) (ha : Rep n f a) : wpOp P ops (lift n Q) i (fun a' w' => ∃ f', Rep n f' a' ∧ next f' w') a w := by
  have h1 := h a ha
  unfold wpList at h1
  unfold wpOp
  simp only [hi]
  by_cases hw : Region.wanted o (yielded ops a.tmps) = true
  · rw [if_pos hw] at h1 ⊢
    rcases h1 with h1 | ⟨_, a1, w1, f1, _, h2⟩
    · left
      unfold Oper.wp at h1 ⊢
      cases hr : (execOp a.eval o).run P w with
      | ok x w' =>
        rw [hr] at h1
        cases x with
        | enter g args =>
          simp only [Oper.upon] at h1 ⊢
          refine Calls.mono h1 fun e w2 he => ?_
          cases e with
          | returned v => exact he
          | panicked c => obtain ⟨f1, _, hq⟩ := he; exact ((hQ f1 w2).1 c hq).elim
          | outgrown => obtain ⟨a1, w1, f1, _, hq⟩ := he; exact ((hQ f1 w1).2 hq).elim
        | value u => exact h1
        | skip => exact h1
        | defer d => exact h1
        | row r args => exact h1
        | _ => exact h1.elim
      | halt x w' =>
        rw [hr] at h1
        cases x with
        | panic v => obtain ⟨f1, _, hq⟩ := h1; exact ((hQ f1 w').1 _ hq).elim
        | _ => exact h1.elim
    · exact ((hQ f1 w1).2 h2).elim
  · rw [if_neg hw] at h1 ⊢
    exact h1
theorem RG_of {rs : List Nat} (hr : Region.ready .any ops (ml ops.size m) = rs) (hne : rs ≠ []) (h : ∀ i ∈ rs, ∀ a, Rep n f a → wpOp P ops (lift n Q) i (fun a' w' => SG Loud C ((ml ops.size m).setIfInBounds i true) w' ∧ wpG P .any ops (lift n Q) (SG Loud C) fuel ((ml ops.size m).setIfInBounds i true) a' w') a w) : RG rid P n ops Loud C (fuel + 1) m Q f w := fun hS a ha => by
  rw [wpG_succ, hr]
  exact ⟨fun e => absurd e hne, fun i hi => h i hi a ha⟩
theorem rk_next (hQ : NoP Q) (hi : ops[i]? = some o) (hset : (ml ops.size m).setIfInBounds i true = ml ops.size m') (h : WL P n ops [o] (thn (fun f' w' => RK rid P n ops Loud C fuel m' Q f' w') Q) f w) : ∀ a, Rep n f a → wpOp P ops (lift n Q) i (fun a' w' => SG Loud C ((ml ops.size m).setIfInBounds i true) w' ∧ wpG P .any ops (lift n Q) (SG Loud C) fuel ((ml ops.size m).setIfInBounds i true) a' w') a w := fun a ha => by
  rw [hset]
  exact wpOp_mono (fun a' w' ⟨f', hf', h1, h2⟩ => ⟨h1, h2 h1 a' hf'⟩) (list_op (S := fun _ => True) hQ hi h ha)
theorem RG_one (i m' : Nat) (hr : Region.ready .any ops (ml ops.size m) = [i]) (hi : ops[i]? = some o) (hset : (ml ops.size m).setIfInBounds i true = ml ops.size m') (hQ : NoP Q)
    (h : WL P n ops [o] (thn (fun f' w' => RK rid P n ops Loud C fuel m' Q f' w') Q) f w) : RG rid P n ops Loud C (fuel + 1) m Q f w :=
  RG_of hr (by simp) fun k hk => by
    simp at hk; subst hk
    exact rk_next hQ hi hset h
theorem RG_two (i j m' m2 : Nat) (hr : Region.ready .any ops (ml ops.size m) = [i, j]) (hi : ops[i]? = some o) (hset : (ml ops.size m).setIfInBounds i true = ml ops.size m') (hj : ops[j]? = some o2) (hset2 : (ml ops.size m).setIfInBounds j true = ml ops.size m2) (hQ : NoP Q)
    (h : WL P n ops [o] (thn (fun f' w' => RK rid P n ops Loud C fuel m' Q f' w') Q) f w) (h2 : WL P n ops [o2] (thn (fun f' w' => RK rid P n ops Loud C fuel m2 Q f' w') Q) f w) : RG rid P n ops Loud C (fuel + 1) m Q f w :=
  RG_of hr (by simp) fun k hk => by
    simp at hk
    rcases hk with rfl | rfl
    · exact rk_next hQ hi hset h
    · exact rk_next hQ hj hset2 h2
theorem RG_three {o3 : Oper} (i j k m' m2 m3 : Nat) (hr : Region.ready .any ops (ml ops.size m) = [i, j, k]) (hi : ops[i]? = some o) (hset : (ml ops.size m).setIfInBounds i true = ml ops.size m') (hj : ops[j]? = some o2) (hset2 : (ml ops.size m).setIfInBounds j true = ml ops.size m2) (hk : ops[k]? = some o3) (hset3 : (ml ops.size m).setIfInBounds k true = ml ops.size m3) (hQ : NoP Q)
    (h : WL P n ops [o] (thn (fun f' w' => RK rid P n ops Loud C fuel m' Q f' w') Q) f w) (h2 : WL P n ops [o2] (thn (fun f' w' => RK rid P n ops Loud C fuel m2 Q f' w') Q) f w) (h3 : WL P n ops [o3] (thn (fun f' w' => RK rid P n ops Loud C fuel m3 Q f' w') Q) f w) : RG rid P n ops Loud C (fuel + 1) m Q f w :=
  RG_of hr (by simp) fun l hl => by
    simp at hl
    rcases hl with rfl | rfl | rfl
    · exact rk_next hQ hi hset h
    · exact rk_next hQ hj hset2 h2
    · exact rk_next hQ hk hset3 h3
theorem RG_done (hr : Region.ready .any ops (ml ops.size m) = []) (h : Q .normal f w) : RG rid P n ops Loud C fuel m Q f w := fun hS a ha => by
  cases fuel with
  | zero => exact ⟨hr, f, ha, h⟩
  | succ k =>
    rw [wpG_succ, hr]
    exact ⟨fun _ => ⟨f, ha, h⟩, fun i hi => by cases hi⟩
end
section
variable {rid : Nat} {P : Program} {n : Nat} {l r r2 r3 : List Oper} {Q : Exit → Fr → World → Prop} {f : Fr} {w : World} {Loud : List Nat} {C : World → Prop} {fuel m : Nat} {o o2 o3 : Oper}
theorem drop_op {i : Nat} (h : l.drop i = o :: r) : l.toArray[i]? = some o := by
  have := congrArg (·[0]?) h
  simpa using this
theorem RX_pure (i m' : Nat) (hi : l.drop i = o :: r) (ho : plainOp o.op = true) (hs : Region.noSelect l.toArray = true) (hf : Region.free .any l.toArray (ml l.toArray.size m) i = true)
    (hr : (Region.ready .any l.toArray (ml l.toArray.size m)).contains i = true) (hset : (ml l.toArray.size m).setIfInBounds i true = ml l.toArray.size m') (hil : Loud.contains i = false) (hQ : NoP Q)
    (h : QL P n l.toArray (fun _ => True) [o] (fun f' => RG rid P n l.toArray Loud C fuel m' Q f' w) f) : RG rid P n l.toArray Loud C (fuel + 1) m Q f w := RG_pure i m' (drop_op hi) ho hs hf hr hset hil hQ h
theorem RX_load (i m' : Nat) (D : List Nat) (hi : l.drop i = o :: r) (ho : plainOp o.op = true) (hs : Region.noSelect l.toArray = true) (hf : Region.free .any l.toArray (ml l.toArray.size m) i = true)
    (hr : (Region.ready .any l.toArray (ml l.toArray.size m)).contains i = true) (hset : (ml l.toArray.size m).setIfInBounds i true = ml l.toArray.size m') (hil : Loud.contains i = false) (hD : waitsB l.toArray (ml l.toArray.size m) i D = true) (hLD : (Loud.all fun l => D.contains l) = true) (hQ : NoP Q)
    (h : QL P n l.toArray C [o] (fun f' => RG rid P n l.toArray Loud C fuel m' Q f' w) f) : RG rid P n l.toArray Loud C (fuel + 1) m Q f w := RG_load i m' D (drop_op hi) ho hs hf hr hset hil hD hLD hQ h
theorem RX_one (i m' : Nat) (hr : Region.ready .any l.toArray (ml l.toArray.size m) = [i]) (hi : l.drop i = o :: r) (hset : (ml l.toArray.size m).setIfInBounds i true = ml l.toArray.size m') (hQ : NoP Q)
    (h : WL P n l.toArray [o] (thn (fun f' w' => RK rid P n l.toArray Loud C fuel m' Q f' w') Q) f w) : RG rid P n l.toArray Loud C (fuel + 1) m Q f w := RG_one i m' hr (drop_op hi) hset hQ h
theorem RX_two (i j m' m2 : Nat) (hr : Region.ready .any l.toArray (ml l.toArray.size m) = [i, j]) (hi : l.drop i = o :: r) (hset : (ml l.toArray.size m).setIfInBounds i true = ml l.toArray.size m') (hj : l.drop j = o2 :: r2) (hset2 : (ml l.toArray.size m).setIfInBounds j true = ml l.toArray.size m2) (hQ : NoP Q)
    (h : WL P n l.toArray [o] (thn (fun f' w' => RK rid P n l.toArray Loud C fuel m' Q f' w') Q) f w) (h2 : WL P n l.toArray [o2] (thn (fun f' w' => RK rid P n l.toArray Loud C fuel m2 Q f' w') Q) f w) : RG rid P n l.toArray Loud C (fuel + 1) m Q f w := RG_two i j m' m2 hr (drop_op hi) hset (drop_op hj) hset2 hQ h h2
theorem RX_three (i j k m' m2 m3 : Nat) (hr : Region.ready .any l.toArray (ml l.toArray.size m) = [i, j, k]) (hi : l.drop i = o :: r) (hset : (ml l.toArray.size m).setIfInBounds i true = ml l.toArray.size m') (hj : l.drop j = o2 :: r2) (hset2 : (ml l.toArray.size m).setIfInBounds j true = ml l.toArray.size m2) (hk : l.drop k = o3 :: r3) (hset3 : (ml l.toArray.size m).setIfInBounds k true = ml l.toArray.size m3) (hQ : NoP Q)
    (h : WL P n l.toArray [o] (thn (fun f' w' => RK rid P n l.toArray Loud C fuel m' Q f' w') Q) f w) (h2 : WL P n l.toArray [o2] (thn (fun f' w' => RK rid P n l.toArray Loud C fuel m2 Q f' w') Q) f w) (h3 : WL P n l.toArray [o3] (thn (fun f' w' => RK rid P n l.toArray Loud C fuel m3 Q f' w') Q) f w) : RG rid P n l.toArray Loud C (fuel + 1) m Q f w := RG_three i j k m' m2 m3 hr (drop_op hi) hset (drop_op hj) hset2 (drop_op hk) hset3 hQ h h2 h3
end
end Go.Proofs.Ytipjhbkjgidljaa.E
