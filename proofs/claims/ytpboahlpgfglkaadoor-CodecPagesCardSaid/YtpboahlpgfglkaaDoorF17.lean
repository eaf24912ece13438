/-
  Plain law: how many pages a round needs grows with its requests, not with the pages' sizes.
-/
import Derived.Test.YtpboahlpgfglkaaDoorF13
namespace Go.Proofs.YtpboahlpgfglkaaDoor.X
open Go Go.RowKit
set_option linter.unusedVariables false
set_option maxRecDepth 100000

theorem ceil_iff (n h k : Nat) (hh : 1 ≤ h) : ceilDiv n h ≤ k ↔ n ≤ k * h := by
  unfold ceilDiv
  rw [← Nat.lt_succ_iff, Nat.div_lt_iff_lt_mul (by omega), Nat.succ_mul]
  omega
theorem ceil_mono {m n h : Nat} (hmn : m ≤ n) : ceilDiv m h ≤ ceilDiv n h := Nat.div_le_div_right (by omega)
theorem ceil_anti {n h h' : Nat} (h1 : 1 ≤ h) (hh : h ≤ h') : ceilDiv n h' ≤ ceilDiv n h := by
  rw [ceil_iff n h' _ (by omega)]
  exact Nat.le_trans ((ceil_iff n h _ h1).1 (Nat.le_refl _)) (Nat.mul_le_mul_left _ hh)
theorem ceil_zero {n h : Nat} (h1 : 1 ≤ h) : ceilDiv n h = 0 ↔ n = 0 := by
  have := ceil_iff n h 0 h1
  omega
theorem padTab3 : ((List.range 256).all fun m => decide (pad m ≤ pad (m + 1))) = true := by kernel_rfl
theorem pad_mono {m n : Nat} (h : m ≤ n) (hn : n ≤ 256) : pad m ≤ pad n := by
  induction n with
  | zero => have : m = 0 := by omega
            subst this; exact Nat.le_refl _
  | succ n ih =>
    rcases Nat.lt_or_ge n m with h' | h'
    · have : m = n + 1 := by omega
      subst this; exact Nat.le_refl _
    · exact Nat.le_trans (ih h' (by omega)) (of_decide_eq_true ((List.all_eq_true.1 padTab3) n (by simp; omega)))

theorem cfgSizes_text {c : Cfg} {kind t : Int} (hg : c.good) (ht : c.text ≤ t) (ht2 : t ≤ 4096) : ({ c with text := t } : Cfg).good ∧ cfgSizes { c with text := t } kind = cfgSizes c kind := by
  have hg2 : ({ c with text := t } : Cfg).good := by
    unfold Cfg.good at hg ⊢
    dsimp only
    omega
  refine ⟨hg2, ?_⟩
  unfold cfgSizes
  rw [if_pos hg, if_pos hg2]
theorem cfgSizes_zero {c : Cfg} {kind : Int} (hg : c.good) (hk : kind = 1 ∨ kind = 2) : (cfgSizes c kind).2.2.2 = 0 := by
  unfold cfgSizes
  rw [if_pos hg]
  rcases hk with rfl | rfl
  · rw [if_pos rfl]
  · rfl
theorem cfgPages_at {c : Cfg} {kind : Int} {n : Nat} (hg : c.good) (hk : kind = 1 ∨ kind = 2) (hn : (n : Int) ≤ c.batch) :
    cfgPages c kind n = (((ceilDiv (pad n) (c.text.toNat / (cfgSizes c kind).2.2.1.toNat) + ceilDiv n (c.text.toNat / 32) : Nat) : Int), 0) := by
  unfold cfgPages
  rw [if_neg (by rw [cfgSizes_zero hg hk]; simp), if_neg (by omega), if_neg (by omega), Int.toNat_natCast]
theorem cfgPages_ok {c : Cfg} {kind : Int} {n : Nat} (hg : c.good) (hk : kind = 1 ∨ kind = 2) (hn : (n : Int) ≤ c.batch) :
    ∃ p : Nat, cfgPages c kind n = ((p : Int), 0) ∧ (p = 0 ↔ n = 0) ∧ p ≤ 3 * n ∧
      (∀ m : Nat, m ≤ n → ∃ q : Nat, cfgPages c kind m = ((q : Int), 0) ∧ q ≤ p) ∧
      (∀ t : Int, c.text ≤ t → t ≤ 4096 → ∃ q : Nat, cfgPages { c with text := t } kind n = ((q : Int), 0) ∧ q ≤ p) := by
  obtain ⟨-, h1, h2, -⟩ := cfgSizes_ok (cfgSizes_zero hg hk)
  have hg' := hg
  unfold Cfg.good at hg'
  have hb : n ≤ 256 := by omega
  have hd1 : 1 ≤ c.text.toNat / (cfgSizes c kind).2.2.1.toNat := (Nat.le_div_iff_mul_le (by omega)).2 (by omega)
  have hd2 : 1 ≤ c.text.toNat / 32 := (Nat.le_div_iff_mul_le (by omega)).2 (by omega)
  have hp := pad_bounds n hb
  refine ⟨_, cfgPages_at hg hk hn, ?_, ?_, fun m hm => ?_, fun t ht ht2 => ?_⟩
  · have z1 := ceil_zero (n := pad n) hd1
    have z2 := ceil_zero (n := n) hd2
    omega
  · have z1 := ceil_le (pad n) _ hd1
    have z2 := ceil_le n _ hd2
    omega
  · exact ⟨_, cfgPages_at hg hk (by omega), Nat.add_le_add (ceil_mono (pad_mono hm hb)) (ceil_mono hm)⟩
  · obtain ⟨hg2, hs⟩ := cfgSizes_text (kind := kind) hg ht ht2
    refine ⟨_, cfgPages_at hg2 hk (by exact hn), ?_⟩
    rw [hs]
    dsimp only
    exact Nat.add_le_add (ceil_anti hd1 (Nat.div_le_div_right (by omega))) (ceil_anti hd2 (Nat.div_le_div_right (by omega)))
theorem cfgPages_bad {c : Cfg} {kind n : Int} (h : ¬ (c.good ∧ (kind = 1 ∨ kind = 2) ∧ 0 ≤ n ∧ n ≤ c.batch)) : ∃ e, cfgPages c kind n = (0, e) ∧ e ≠ 0 := by
  unfold cfgPages
  by_cases he : (cfgSizes c kind).2.2.2 = 0
  · obtain ⟨hg, -, -, hk⟩ := cfgSizes_ok he
    rw [if_neg (by simpa using he)]
    by_cases h1 : n < 0
    · rw [if_pos h1]; exact ⟨2, rfl, by decide⟩
    · rw [if_neg h1]
      by_cases h2 : c.batch < n
      · rw [if_pos h2]; exact ⟨252, rfl, by decide⟩
      · exact absurd ⟨hg, hk, by omega, by omega⟩ h
  · rw [if_pos he]; exact ⟨_, rfl, he⟩
end Go.Proofs.YtpboahlpgfglkaaDoor.X
