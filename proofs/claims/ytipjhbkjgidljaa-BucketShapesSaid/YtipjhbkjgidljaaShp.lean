/- Plain laws of the shaper. -/
import Derived.Test.YtipjhbkjgidljaaBucSays
namespace Go.Proofs.Ytipjhbkjgidljaa
open Go Go.RowKit E
abbrev encI : Int → List Value := fun a => [.int .i64 a]
def okS (s t : Int) : Prop := (0 ≤ s ∧ s ≤ 1000000) ∧ (0 ≤ t ∧ t ≤ 1000000000)
instance (s t : Int) : Decidable (okS s t) := by unfold okS; infer_instance
def vEr : Int → List Int → List Int → Int
  | last, s :: ss, t :: ts => if okS s t then (if t < last then 13 else vEr t ss ts) else 1
  | _, _, _ => 0
theorem vEr_cons {last s t : Int} {ss ts : List Int} : vEr last (s :: ss) (t :: ts) = if okS s t then (if t < last then 13 else vEr t ss ts) else 1 := rfl
theorem vEr_nil {last : Int} {ts : List Int} : vEr last [] ts = 0 := by cases ts <;> rfl
/-- one packet: the time of its departure, and the level then. -/
def nowS (at_ t : Int) : Int := if t < at_ then at_ else t
def wE (r b l at_ s t : Int) : Int := waitE r b s (lv r b l (nowS at_ t - at_))
def wV (r b l at_ s t : Int) : Int := waitV r b s (lv r b l (nowS at_ t - at_))
def shp (r b : Int) : Int → Int → List Int → List Int → List Int × Int
  | l, a, s :: ss, t :: ts =>
    if wE r b l a s t ≠ 0 then ([], wE r b l a s t)
    else if 1000000000 < nowS a t + wV r b l a s t then ([], 5)
    else ((nowS a t + wV r b l a s t) :: (shp r b (lv r b l (nowS a t + wV r b l a s t - a) - 1000 * s) (nowS a t + wV r b l a s t) ss ts).1, (shp r b (lv r b l (nowS a t + wV r b l a s t - a) - 1000 * s) (nowS a t + wV r b l a s t) ss ts).2)
  | _, _, _, _ => ([], 0)
theorem shp_err {r b l a s t : Int} {ss ts : List Int} (h : wE r b l a s t ≠ 0) : shp r b l a (s :: ss) (t :: ts) = ([], wE r b l a s t) := by
  show (if _ then _ else _) = _; rw [if_pos h]
theorem shp_full {r b l a s t : Int} {ss ts : List Int} (h : wE r b l a s t = 0) (h2 : 1000000000 < nowS a t + wV r b l a s t) : shp r b l a (s :: ss) (t :: ts) = ([], 5) := by
  show (if _ then _ else _) = _; rw [if_neg (by omega), if_pos h2]
theorem shp_ok {r b l a s t : Int} {ss ts : List Int} (h : wE r b l a s t = 0) (h2 : ¬ 1000000000 < nowS a t + wV r b l a s t) : shp r b l a (s :: ss) (t :: ts) = ((nowS a t + wV r b l a s t) :: (shp r b (lv r b l (nowS a t + wV r b l a s t - a) - 1000 * s) (nowS a t + wV r b l a s t) ss ts).1, (shp r b (lv r b l (nowS a t + wV r b l a s t - a) - 1000 * s) (nowS a t + wV r b l a s t) ss ts).2) := by
  show (if _ then _ else _) = _; rw [if_neg (by omega), if_neg h2]
theorem shp_nil {r b l a : Int} {ts : List Int} : shp r b l a [] ts = ([], 0) := by cases ts <;> rfl
theorem lv_add {r b l j k : Int} (hr : 0 ≤ r) (hj : 0 ≤ j) (hk : 0 ≤ k) : lv r b (lv r b l j) k = lv r b l (j + k) := by
  have h1 := Int.mul_nonneg hr hk
  unfold lv
  rw [Int.mul_add]
  split <;> split <;> (try split) <;> omega
/-- what a wait is. -/
theorem wait_is {r b m n : Int} (hr : 0 ≤ r ∧ r ≤ 1000000) (hb : 0 ≤ b ∧ b ≤ 1000000) (hm : 0 ≤ m ∧ m ≤ 1000 * b) (hn : 0 ≤ n ∧ n ≤ 1000000) : 0 ≤ waitV r b n m ∧ waitV r b n m ≤ 1000000000 ∧ (waitE r b n m = 0 → 1000 * n ≤ lv r b m (waitV r b n m)) := by
  unfold waitV waitE
  by_cases h0 : 1000 * n ≤ m
  · rw [if_pos h0, if_pos h0]
    exact ⟨by omega, by omega, fun _ => by rw [lv0 hm.2]; exact h0⟩
  · rw [if_neg h0, if_neg h0]
    by_cases hbn : b < n
    · rw [if_pos hbn, if_pos hbn]; exact ⟨by omega, by omega, fun h => by omega⟩
    · rw [if_neg hbn, if_neg hbn]
      by_cases hr0 : r = 0
      · rw [if_pos hr0, if_pos hr0]; exact ⟨by omega, by omega, fun h => by omega⟩
      · rw [if_neg hr0, if_neg hr0]
        have hrp : 0 < r := by omega
        have hp := ceil_p (s := 1000 * n - m) hrp
        have hnn : 0 ≤ 1000 * n - m + r - 1 := by omega
        have hq0 : 0 ≤ (1000 * n - m + r - 1) / r := Int.ediv_nonneg hnn (by omega)
        have hq1 : (1000 * n - m + r - 1) / r ≤ 1000000000 := by
          have h1 : r * ((1000 * n - m + r - 1) / r - 1) < 1000 * n - m := hp.2
          by_cases h2 : (1000 * n - m + r - 1) / r ≤ 1000000000
          · exact h2
          · have h3 : 1 * ((1000 * n - m + r - 1) / r - 1) ≤ r * ((1000 * n - m + r - 1) / r - 1) := Int.mul_le_mul_of_nonneg_right (by omega) (by omega)
            omega
        rw [Int.tdiv_eq_ediv_of_nonneg hnn, i64_id (by omega) (by omega)]
        refine ⟨hq0, hq1, fun _ => ?_⟩
        unfold lv
        split <;> omega
/-- what the reference's search finds. -/
theorem waits' {r b m n x : Int} (most : Int) (hm0 : 0 ≤ most) (hr : 0 ≤ r ∧ r ≤ 1000000) (hb : 0 ≤ b ∧ b ≤ 1000000) (hm : 0 ≤ m ∧ m ≤ 1000 * b) (hn : 0 ≤ n ∧ n ≤ 1000000) (h : WaitP r b m n most x) :
    (0 ≤ x ∧ waitV r b n m = x ∧ waitE r b n m = 0) ∨ (x = -1 ∧ b < n ∧ waitE r b n m = 10) ∨ (x = -1 ∧ n ≤ b ∧ r = 0 ∧ waitE r b n m = 4) ∨ (x = -1 ∧ n ≤ b ∧ r ≠ 0) := by
  unfold waitV waitE
  by_cases h0 : 1000 * n ≤ m
  · rw [if_pos h0, if_pos h0]
    rcases h with ⟨rfl, h⟩ | ⟨hx, _, h1, h2⟩
    · have := h 0 (by omega); rw [lv0 hm.2] at this; omega
    · by_cases e : x = 0
      · subst e; exact .inl ⟨by omega, rfl, rfl⟩
      · have := h2 0 (by omega); rw [lv0 hm.2] at this; omega
  · rw [if_neg h0, if_neg h0]
    by_cases hbn : b < n
    · rw [if_pos hbn, if_pos hbn]
      rcases h with ⟨rfl, h⟩ | ⟨hx, _, h1, h2⟩
      · exact .inr (.inl ⟨rfl, hbn, rfl⟩)
      · have := lv_bd (k := x) hr.1 hm.1 hb.1 hx; omega
    · rw [if_neg hbn, if_neg hbn]
      by_cases hr0 : r = 0
      · rw [if_pos hr0, if_pos hr0]
        rcases h with ⟨rfl, h⟩ | ⟨hx, _, h1, h2⟩
        · exact .inr (.inr (.inl ⟨rfl, by omega, hr0, rfl⟩))
        · exfalso
          unfold lv at h1
          subst hr0
          rw [Int.zero_mul, Int.add_zero] at h1
          split at h1 <;> omega
      · rw [if_neg hr0, if_neg hr0]
        have hrp : 0 < r := by omega
        have hnn : 0 ≤ 1000 * n - m + r - 1 := by omega
        have hq0 : 0 ≤ (1000 * n - m + r - 1) / r := Int.ediv_nonneg hnn (by omega)
        have hq1 : (1000 * n - m + r - 1) / r ≤ 1000 * n - m + r - 1 := Int.ediv_le_self _ hnn
        rw [Int.tdiv_eq_ediv_of_nonneg hnn, i64_id (by omega) (by omega)]
        rcases h with ⟨rfl, h⟩ | ⟨hx, hx2, h1, h2⟩
        · exact .inr (.inr (.inr ⟨rfl, by omega, hr0⟩))
        · left
          refine ⟨hx, ?_, rfl⟩
          have hx0 : x ≠ 0 := by rintro rfl; rw [lv0 hm.2] at h1; omega
          refine ceil_is hrp ?_ ?_
          · unfold lv at h1; split at h1 <;> omega
          · have h3 := h2 (x - 1) (by omega)
            unfold lv at h3; split at h3 <;> omega
def shapeR (r b l a : Int) (ss ts : List Int) : List Int × Int :=
  if ss.length ≠ ts.length then ([], 3) else if vEr a ss ts ≠ 0 then ([], vEr a ss ts) else if (shp r b l a ss ts).2 ≠ 0 then ([], (shp r b l a ss ts).2) else ((shp r b l a ss ts).1, 0)
/-- the times as the law turns them. -/
def adj : Int → List Int → List Int → List Int × Int
  | last, s :: ss, t :: ts => if okS s t then (if t < last then (t :: ts, 13) else ((if last + 400 < t then last + 400 else t) :: (adj (if last + 400 < t then last + 400 else t) ss ts).1, (adj (if last + 400 < t then last + 400 else t) ss ts).2)) else (t :: ts, 1)
  | _, _, ts => (ts, 0)
theorem adj_len : ∀ (last : Int) (ss ts : List Int), (adj last ss ts).1.length = ts.length
  | last, s :: ss, t :: ts => by
    unfold adj
    split
    · split
      · rfl
      · simp [adj_len]
    · rfl
  | _, [], ts => by unfold adj; rfl
  | _, _ :: _, [] => by unfold adj; rfl
theorem adj_vEr : ∀ (last : Int) (ss ts : List Int), 0 ≤ last → vEr last ss (adj last ss ts).1 = (adj last ss ts).2
  | last, s :: ss, t :: ts, h => by
    unfold adj
    split
    · rename_i h1
      split
      · rename_i h2; simp only [vEr_cons]; rw [if_pos h1, if_pos h2]
      · rename_i h2
        obtain ⟨h3, h4⟩ := h1
        have ih := adj_vEr (if last + 400 < t then last + 400 else t) ss ts (by split <;> omega)
        simp only [vEr_cons]
        rw [if_pos (by unfold okS; split <;> omega), if_neg (by split <;> omega)]
        exact ih
    · rename_i h1; simp only [vEr_cons]; rw [if_neg h1]
  | last, [], ts, _ => by unfold adj; rw [vEr_nil]
  | last, s :: ss, [], _ => rfl
theorem adj_bad {last s t : Int} {ss ts : List Int} (h : ¬ okS s t) : adj last (s :: ss) (t :: ts) = (t :: ts, 1) := by
  conv => lhs; unfold adj
  rw [if_neg h]
theorem adj_old {last s t : Int} {ss ts : List Int} (h : okS s t) (h2 : t < last) : adj last (s :: ss) (t :: ts) = (t :: ts, 13) := by
  conv => lhs; unfold adj
  rw [if_pos h, if_pos h2]
theorem adj_step {last s t t' : Int} {ss ts : List Int} (h : okS s t) (h2 : ¬ t < last) (h3 : t' = if last + 400 < t then last + 400 else t) : adj last (s :: ss) (t :: ts) = (t' :: (adj t' ss ts).1, (adj t' ss ts).2) := by
  conv => lhs; unfold adj
  rw [if_pos h, if_neg h2, h3]
theorem vEr_all : ∀ (last : Int) (ss ts : List Int), vEr last ss ts = 0 → ∀ (i : Nat) (s t : Int), ss[i]? = some s → ts[i]? = some t → okS s t
  | last, s :: ss, t :: ts, h, i, s', t', h1, h2 => by
    rw [vEr_cons] at h
    split at h
    · rename_i hk
      split at h
      · omega
      · cases i with
        | zero => simp at h1 h2; subst h1 h2; exact hk
        | succ i => exact vEr_all t ss ts h i s' t' (by simpa using h1) (by simpa using h2)
    · omega
  | _, [], _, _, i, s', t', h1, _ => by simp at h1
  | _, _ :: _, [], _, i, s', t', _, h2 => by simp at h2
end Go.Proofs.Ytipjhbkjgidljaa
