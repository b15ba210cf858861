/- A step engine for walks: frames as functions, memory as a list of known blocks. -/
import Derived.WalkKit
import Derived.WalkSpells
import Derived.WalkLawsBesides
import Derived.KernelRfl
import Derived.Deep.QuietTactic
import Derived.BigQuiet
import Derived.Laws.Rows
import Derived.Laws.AppendOwn
set_option linter.unusedVariables false
set_option linter.unusedSimpArgs false
namespace Go.Proofs.Ytipjhbkjgidljaa.E
open Go Go.RowKit

/-! ### 1. Frames -/
abbrev Fr := Nat → Value
def upd (f : Fr) (d : Nat) (v : Value) : Fr := fun i => cond (Nat.beq i d) v (f i)
def ev (f : Fr) : Operand → Value
  | .tmp t => f t
  | .const v => v
  | .global g => .pointer (some ⟨g, 0, none⟩)
  | .func g => .func (.func g) #[] #[]
def Rep (n : Nat) (f : Fr) (a : Act) : Prop := a.defers = [] ∧ a.tmps.size = n ∧ ∀ i, a.tmps.getD i undef = f i
section
variable {n d : Nat} {f : Fr} {a : Act} {v : Value}
theorem upd_same (f : Fr) (d : Nat) (v : Value) : upd f d v d = v := by simp [upd]
theorem upd_other (f : Fr) {d i : Nat} (v : Value) (h : i ≠ d) : upd f d v i = f i := by
  have : Nat.beq i d = false := by
    cases hb : Nat.beq i d
    · rfl
    · exact absurd (Nat.eq_of_beq_eq_true hb) h
  simp [upd, this]
theorem Rep.eval (h : Rep n f a) : a.eval = ev f := by
  funext x
  cases x with
  | tmp t => exact h.2.2 t
  | const v => rfl
  | global g => rfl
  | func g => rfl
theorem Rep.put (h : Rep n f a) (hd : Nat.blt d n = true) : Rep n (upd f d v) (a.put (some d) v) := by
  have hlt : d < a.tmps.size := by rw [h.2.1]; simpa using hd
  refine ⟨h.1, by simpa [Act.put] using h.2.1, fun i => ?_⟩
  have hi := h.2.2 i
  simp only [Act.put, Array.getD_eq_getD_getElem?, Array.getElem?_setIfInBounds] at hi ⊢
  by_cases e : i = d
  · subst e; rw [upd_same]; simp [hlt]
  · rw [upd_other f v e, if_neg (fun h => e h.symm)]; exact hi
theorem Rep.put_none (h : Rep n f a) : Rep n f (a.put none v) := h
end
def fr0 (args : List Value) : Fr := fun i => args.getD i undef

/-! ### 2. The walk's own words -/
def lift (n : Nat) (Q : Exit → Fr → World → Prop) : Exit → Act → World → Prop := fun e a w => ∃ f, Rep n f a ∧ Q e f w
def W (P : Program) (n : Nat) (c : Code) (Q : Exit → Fr → World → Prop) (f : Fr) (w : World) : Prop := ∀ a, Rep n f a → c.wp P (lift n Q) a w
def WL (P : Program) (n : Nat) (ops : Array Oper) (rest : List Oper) (Q : Exit → Fr → World → Prop) (f : Fr) (w : World) : Prop := ∀ a, Rep n f a → wpList P ops (lift n Q) rest a w
def thn (next : Fr → World → Prop) (Q : Exit → Fr → World → Prop) : Exit → Fr → World → Prop
  | .normal, f, w => next f w
  | e, f, w => Q e f w
def inB (id : Nat) (Q : Exit → Fr → World → Prop) : Exit → Fr → World → Prop
  | .exit i, f, w => if i = id then Q .normal f w else Q (.exit i) f w
  | e, f, w => Q e f w
def post (P : Program) (fn : Func) (R : Ending → World → Prop) : Exit → Fr → World → Prop
  | .normal, f, w | .ret, f, w => ∃ v, (∀ a : Act, (∀ i, a.tmps.getD i undef = f i) → (results fn a.tmps).run P w = .ok v w) ∧ R (.returned v) w
  | _, _, _ => False
section
variable {P : Program} {n : Nat} {Q : Exit → Fr → World → Prop} {f : Fr} {w : World}
theorem W_seq {x y : Code} (h : W P n x (thn (W P n y Q) Q) f w) : W P n (.seq x y) Q f w := fun a ha =>
  wp_seq (wp_mono (h a ha) fun e a w ⟨f', hf', hq⟩ => by
    cases e with
    | normal => exact hq a hf'
    | _ => exact ⟨f', hf', hq⟩)
theorem W_block {id : Nat} {c : Code} (h : W P n c (inB id Q) f w) : W P n (.block id c) Q f w := fun a ha =>
  wp_block (wp_mono (h a ha) fun e a w ⟨f', hf', hq⟩ => by
    cases e with
    | exit i =>
      simp only [inB] at hq
      simp only [Exit.inBlock]
      split at hq
      · rename_i hi; rw [if_pos hi]; exact ⟨f', hf', hq⟩
      · rename_i hi; rw [if_neg hi]; exact ⟨f', hf', hq⟩
    | _ => exact ⟨f', hf', hq⟩)
theorem W_cond {c : Operand} {x y : Code} {b : Bool} (hc : ev f c = .bool b) (ht : b = true → W P n x Q f w) (hf : b = false → W P n y Q f w) : W P n (.cond c x y) Q f w := fun a ha =>
  wp_cond_split (by rw [ha.eval]; exact hc) (fun e => ht e a ha) (fun e => hf e a ha)
theorem W_cond_t {c : Operand} {x y : Code} (hc : ev f c = .bool true) (ht : W P n x Q f w) : W P n (.cond c x y) Q f w := W_cond hc (fun _ => ht) (fun e => by cases e)
theorem W_cond_f {c : Operand} {x y : Code} (hc : ev f c = .bool false) (hf : W P n y Q f w) : W P n (.cond c x y) Q f w := W_cond hc (fun e => by cases e) (fun _ => hf)
theorem W_cond_d {c : Operand} {x y : Code} {p : Prop} {dp : Decidable p} (hc : ev f c = .bool (decide p)) (ht : p → W P n x Q f w) (hf : ¬ p → W P n y Q f w) : W P n (.cond c x y) Q f w :=
  W_cond hc (fun e => ht (of_decide_eq_true e)) (fun e => hf (of_decide_eq_false e))
theorem W_skip (h : Q .normal f w) : W P n .skip Q f w := fun a ha => wp_skip ⟨f, ha, h⟩
theorem W_ret (h : Q .ret f w) : W P n .ret Q f w := fun a ha => wp_ret ⟨f, ha, h⟩
theorem W_exit {id : Nat} (h : Q (.exit id) f w) : W P n (.exit id) Q f w := fun a ha => wp_exit ⟨f, ha, h⟩
theorem W_region {id : Nat} {l : List Oper} (h : WL P n l.toArray l Q f w) : W P n (.region id l.toArray false) Q f w := fun a ha => wp_region_lit (h a ha)
theorem W_mono {c : Code} {Q' : Exit → Fr → World → Prop} (h : W P n c Q' f w) (hq : ∀ e f w, Q' e f w → Q e f w) : W P n c Q f w := fun a ha =>
  wp_mono (h a ha) fun e a w ⟨f', hf', q⟩ => ⟨f', hf', hq _ _ _ q⟩
/-- a cut: what the first part leaves is said by R. -/
theorem W_cut {x y : Code} (R : Fr → World → Prop) (h : W P n x (thn R Q) f w) (k : ∀ f w, R f w → W P n y Q f w) : W P n (.seq x y) Q f w :=
  W_seq (W_mono h fun e f w q => by cases e <;> first | exact k _ _ q | exact q)
theorem W_loop {c : Code} (I : Fr → World → Prop) (μ : Fr → World → Nat) (h0 : I f w)
    (round : ∀ f w, I f w → W P n c (thn (fun f' w' => I f' w' ∧ μ f' w' < μ f w) Q) f w) : W P n (.loop c) Q f w := fun a ha => by
  have hrep : ∀ (f1 f2 : Fr) (a : Act), Rep n f1 a → Rep n f2 a → f1 = f2 := fun f1 f2 a h1 h2 => funext fun i => (h1.2.2 i).symm.trans (h2.2.2 i)
  refine wp_loop (fun a w => ∃ f, Rep n f a ∧ I f w) (fun a w => μ (fun i => a.tmps.getD i undef) w) ⟨f, ha, h0⟩ ?_
  rintro a' w' ⟨f', hf', hI⟩
  refine wp_mono (round f' w' hI a' hf') ?_
  rintro e a2 w2 ⟨f2, hf2, hq⟩
  cases e with
  | normal =>
    refine ⟨⟨f2, hf2, hq.1⟩, ?_⟩
    have e1 : (fun i => a'.tmps.getD i undef) = f' := funext hf'.2.2
    have e2 : (fun i => a2.tmps.getD i undef) = f2 := funext hf2.2.2
    simp only [e1, e2]; exact hq.2
  | _ => exact ⟨f2, hf2, hq⟩
theorem thn_normal {next : Fr → World → Prop} (h : next f w) : thn next Q .normal f w := h
theorem thn_ret {next : Fr → World → Prop} (h : Q .ret f w) : thn next Q .ret f w := h
theorem thn_exit {next : Fr → World → Prop} {i : Nat} (h : Q (.exit i) f w) : thn next Q (.exit i) f w := h
theorem inB_normal {id : Nat} (h : Q .normal f w) : inB id Q .normal f w := h
theorem inB_ret {id : Nat} (h : Q .ret f w) : inB id Q .ret f w := h
theorem inB_exit_same {id : Nat} (h : Q .normal f w) : inB id Q (.exit id) f w := by simp only [inB, if_true]; exact h
theorem inB_exit_other {id i : Nat} (hne : Nat.beq i id = false) (h : Q (.exit i) f w) : inB id Q (.exit i) f w := by
  have : i ≠ id := fun e => by subst e; simp at hne
  simp only [inB, if_neg this]; exact h
theorem WL_nil {ops : Array Oper} (h : Q .normal f w) : WL P n ops [] Q f w := fun a ha => wpList_nil ⟨f, ha, h⟩

theorem calls_of_W {fid : FuncId} {fn : Func} {c : Code} {args : List Value} {R : Ending → World → Prop} {n : Nat} (hf : P.funcs[fid]? = some fn) (hb : fn.body = some c) (hn : fn.ntmps = n) (hargs : Nat.ble args.length n = true)
    (h : W P n c (post P fn R) (fr0 args) w) : Calls P fid args.toArray w R := by
  refine calls_of_wp hf hb ?_
  have hle : args.length ≤ n := by simpa using hargs
  refine wp_mono (h _ ⟨rfl, ?_, ?_⟩) ?_
  · simp [hn]; omega
  · intro i
    simp only [hn, fr0, Array.getD_eq_getD_getElem?, List.getD_eq_getElem?_getD, Array.getElem?_append, List.size_toArray, List.getElem?_toArray, Array.getElem?_replicate]
    by_cases h1 : i < args.length
    · rw [if_pos h1]
    · rw [if_neg h1, List.getElem?_eq_none (by omega)]
      split <;> rfl
  · rintro e a w ⟨f, hr, hq⟩
    cases e with
    | normal => obtain ⟨v, h1, h2⟩ := hq; exact ⟨hr.1, v, h1 a hr.2.2, h2⟩
    | ret => obtain ⟨v, h1, h2⟩ := hq; exact ⟨hr.1, v, h1 a hr.2.2, h2⟩
    | _ => exact hq.elim

/-! ### 3. Results -/
variable {fn : Func} {R : Ending → World → Prop}
theorem ret1 {t : Tmp} (h : fn.results = #[.tmp t]) (hR : R (.returned (f t)) w) : post P fn R .ret f w :=
  ⟨f t, fun a ha => by rw [← ha]; exact results_tmp h _ _ _, hR⟩
theorem ret2 {t u : Tmp} (h : fn.results = #[.tmp t, .tmp u]) (hR : R (.returned (.tuple #[f t, f u])) w) : post P fn R .ret f w :=
  ⟨_, fun a ha => by rw [← ha, ← ha]; exact results_tmp2 h _ _ _, hR⟩
theorem ret3 {t u v : Tmp} (h : fn.results = #[.tmp t, .tmp u, .tmp v]) (hR : R (.returned (.tuple #[f t, f u, f v])) w) : post P fn R .ret f w :=
  ⟨_, fun a ha => by rw [← ha, ← ha, ← ha]; simp [results, h], hR⟩
theorem end0 (h : fn.results = #[]) (hR : R (.returned (.tuple #[])) w) : post P fn R .normal f w :=
  ⟨_, fun a _ => results_none h _ _ _, hR⟩
theorem ret0 (h : fn.results = #[]) (hR : R (.returned (.tuple #[])) w) : post P fn R .ret f w :=
  ⟨_, fun a _ => results_none h _ _ _, hR⟩
end

/-! ### 4. Memory: known blocks -/
abbrev Mem := List (Nat × Obj)
abbrev C (t : TypeId) (cs : List Value) : Obj := .cells cs.toArray t (0, 0)
/-- 'since w0': what is known of w: the blocks of L; all other blocks that were there at w0 are as they were, but for those of fp, which stand in L. -/
structure Hp (w0 : World) (fp : List Nat) (w : World) (L : Mem) : Prop where
  os : w.os = w0.os
  tape : w.tape = w0.tape
  output : w.output = w0.output
  size : w0.heap.size ≤ w.heap.size
  old : ∀ k, k < w0.heap.size → k ∉ fp → w.heap[k]? = w0.heap[k]?
  blk : ∀ p ∈ L, w.heap[p.1]? = some p.2
  own : ∀ p ∈ L, p.1 ∈ fp ∨ w0.heap.size ≤ p.1
  nd : (L.map (·.1)).Nodup

section
variable {w0 w w' : World} {fp : List Nat} {L : Mem} {g i : Nat} {o : Obj}
theorem Hp.start (w : World) : Hp w [] w [] := ⟨rfl, rfl, rfl, Nat.le_refl _, fun _ _ _ => rfl, by simp, by simp, by simp⟩
theorem Hp.below (h : Hp w0 [] w L) : Below w0.heap.size w0 w := ⟨h.os, h.tape, h.output, h.size, fun k hk => h.old k hk (by simp)⟩
theorem mem_of_get {l : List (Nat × Obj)} {p : Nat × Obj} (h : l[i]? = some p) : p ∈ l := List.mem_of_getElem? h
theorem Hp.at_ (h : Hp w0 fp w L) (hi : L[i]? = some (g, o)) : w.heap[g]? = some o := h.blk _ (mem_of_get hi)
theorem Hp.lt (h : Hp w0 fp w L) (hi : L[i]? = some (g, o)) : g < w.heap.size := blk_lt' (h.at_ hi)
where blk_lt' {w : World} {g : Nat} {o : Obj} (h : w.heap[g]? = some o) : g < w.heap.size := (Array.getElem?_eq_some_iff.1 h).1
theorem Hp.ltm (h : Hp w0 fp w L) {p : Nat × Obj} (hp : p ∈ L) : p.1 < w.heap.size := (Array.getElem?_eq_some_iff.1 (h.blk p hp)).1
theorem Hp.alloc (h : Hp w0 fp w L) (o : Obj) : Hp w0 fp (w.alloc o) (L ++ [(w.heap.size, o)]) := by
  refine ⟨h.os, h.tape, h.output, by simp; exact Nat.le_succ_of_le h.size, fun k hk hf => ?_, ?_, ?_, ?_⟩
  · rw [Below.heap_alloc _ _ _ (Nat.lt_of_lt_of_le hk h.size)]; exact h.old k hk hf
  · intro p hp
    rcases List.mem_append.1 hp with hp | hp
    · rw [Below.heap_alloc _ _ _ (h.ltm hp)]; exact h.blk p hp
    · simp at hp; subst hp; exact heap_alloc_new w o
  · intro p hp
    rcases List.mem_append.1 hp with hp | hp
    · exact h.own p hp
    · simp at hp; subst hp; exact .inr h.size
  · rw [List.map_append, List.nodup_append]
    refine ⟨h.nd, by simp, ?_⟩
    intro a ha b hb
    simp at hb
    subst hb
    obtain ⟨p, hp, rfl⟩ := List.mem_map.1 ha
    exact Nat.ne_of_lt (h.ltm hp)
theorem Hp.drew (h : Hp w0 fp w L) : Hp w0 fp w.drew L := ⟨h.os, h.tape, h.output, h.size, h.old, h.blk, h.own, h.nd⟩
theorem Hp.drewN (h : Hp w0 fp w L) (m : Nat) : Hp w0 fp (w.drewN m) L := ⟨h.os, h.tape, h.output, h.size, h.old, h.blk, h.own, h.nd⟩
theorem map_fst_set (L : Mem) (i : Nat) (g : Nat) (o o' : Obj) (h : L[i]? = some (g, o)) : (L.set i (g, o')).map (·.1) = L.map (·.1) := by
  apply List.ext_getElem?
  intro j
  rw [List.map_set, List.getElem?_set]
  split
  · rename_i hj; subst hj
    obtain ⟨hlt, he⟩ := List.getElem?_eq_some_iff.1 h
    simp [hlt, he]
  · rfl
theorem inj_of_nodup {l : Mem} (hnd : (l.map (·.1)).Nodup) {p q : Nat × Obj} (hp : p ∈ l) (hq : q ∈ l) (e : p.1 = q.1) : p = q := by
  obtain ⟨i, hi, rfl⟩ := List.getElem_of_mem hp
  obtain ⟨j, hj, rfl⟩ := List.getElem_of_mem hq
  have hpw := List.pairwise_iff_getElem.1 hnd
  rcases Nat.lt_trichotomy i j with h | h | h
  · exact absurd e (by have := hpw i j (by simpa using hi) (by simpa using hj) h; simpa using this)
  · subst h; rfl
  · exact absurd e.symm (by have := hpw j i (by simpa using hj) (by simpa using hi) h; simpa using this)
/-- one known block is changed. -/
theorem Hp.change (h : Hp w0 fp w L) (hi : L[i]? = some (g, o)) {o' : Obj} {w' : World} (hos : w'.os = w.os) (htape : w'.tape = w.tape) (hout : w'.output = w.output) (hsz : w.heap.size ≤ w'.heap.size)
    (hg : w'.heap[g]? = some o') (hoth : ∀ k, k < w.heap.size → k ≠ g → w'.heap[k]? = w.heap[k]?) : Hp w0 fp w' (L.set i (g, o')) := by
  have hm := mem_of_get hi
  refine ⟨hos.trans h.os, htape.trans h.tape, hout.trans h.output, Nat.le_trans h.size hsz, fun k hk hf => ?_, ?_, ?_, ?_⟩
  · have hne : k ≠ g := by
      rintro rfl
      rcases h.own _ hm with h1 | h1
      · exact hf h1
      · simp at h1; omega
    rw [hoth k (Nat.lt_of_lt_of_le hk h.size) hne]; exact h.old k hk hf
  · intro p hp
    by_cases hpg : p.1 = g
    · have : p = (g, o') := by
        have hnd : ((L.set i (g, o')).map (·.1)).Nodup := by rw [map_fst_set L i g o o' hi]; exact h.nd
        have hmem : (g, o') ∈ L.set i (g, o') := by
          have hlt : i < L.length := (List.getElem?_eq_some_iff.1 hi).1
          exact List.mem_of_getElem? (i := i) (by simp [hlt])
        exact inj_of_nodup hnd hp hmem hpg
      subst this; exact hg
    · have hpL : p ∈ L := by
        rcases List.mem_or_eq_of_mem_set hp with h1 | h1
        · exact h1
        · subst h1; exact absurd rfl hpg
      rw [hoth p.1 (h.ltm hpL) hpg]; exact h.blk p hpL
  · intro p hp
    rcases List.mem_or_eq_of_mem_set hp with h1 | h1
    · exact h.own p h1
    · subst h1; exact h.own (g, o) hm
  · rw [map_fst_set L i g o o' hi]; exact h.nd
theorem Hp.set_ (h : Hp w0 fp w L) {t : TypeId} {cs : List Value} (hi : L[i]? = some (g, C t cs)) (k : Nat) (v : Value) : Hp w0 fp (w.setCell ⟨g, k, none⟩ v) (L.set i (g, C t (cs.set k v))) := by
  refine h.change hi rfl rfl rfl (by simp) ?_ (fun j _ hj => Below.heap_setCell _ _ _ _ (by simpa using hj))
  have := heap_setCell_same w g k cs.toArray t v (h.at_ hi)
  rw [this]; simp
/-- a call that leaves all that was there as it was. -/
theorem Hp.step (h : Hp w0 fp w L) (hb : Below w.heap.size w w') : Hp w0 fp w' L :=
  ⟨hb.os.trans h.os, hb.tape.trans h.tape, hb.output.trans h.output, Nat.le_trans h.size hb.size, fun k hk hf => (hb.block k (Nat.lt_of_lt_of_le hk h.size)).trans (h.old k hk hf),
   fun p hp => (hb.block _ (h.ltm hp)).trans (h.blk p hp), h.own, h.nd⟩
theorem Hp.cell (h : Hp w0 fp w L) {t : TypeId} {cs : List Value} (hi : L[i]? = some (g, C t cs)) (k : Nat) : w.cell? ⟨g, k, none⟩ = cs[k]? := by
  rw [cell_of_row w g k cs.toArray t (0, 0) (h.at_ hi)]; simp
theorem Hp.frozen (h : Hp w0 fp w L) {t : TypeId} {cs : List Value} (hi : L[i]? = some (g, C t cs)) (k : Nat) : w.frozen? ⟨g, k, none⟩ = false := frozen_of_row w g k cs.toArray t (h.at_ hi)
theorem Hp.oldcell (h : Hp w0 [] w L) {a : Addr} {v : Value} (hc : w0.cell? a = some v) : w.cell? a = some v := by
  have := World.block_lt_of_cell? w0 a hc
  rw [h.below.cell this]; exact hc
end
end Go.Proofs.Ytipjhbkjgidljaa.E
