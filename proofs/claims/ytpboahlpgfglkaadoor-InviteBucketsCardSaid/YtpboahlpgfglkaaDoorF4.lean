/-
  Contracts: is a config good?
-/
import Derived.Test.YtpboahlpgfglkaaDoorF3
namespace Go.Proofs.YtpboahlpgfglkaaDoor.X
open Go Go.RowKit
set_option linter.unusedVariables false
set_option linter.unusedSimpArgs false
set_option maxRecDepth 100000

theorem within (w : World) (a l m : Int) :
    Calls Tryd.prog 74 #[i64 a, i64 l, i64 m] w (Ret fun v w' => v = .bool (decide (l ≤ a ∧ a ≤ m)) ∧ St w [] [] w') := by
  by_cases h1 : l ≤ a
  · by_cases h2 : a ≤ m
    · rw [decide_eq_true ⟨h1, h2⟩]
      refine enter (args := [_, _, _]) Tryd.func74 rfl rfl rfl ?_
      repeat (first | refine st ?_ | (refine sa ?_; intro _))
      exact VE_ret1 rfl rfl (fun w s => ⟨_, rfl, by rw [decide_eq_true h2], s⟩)
    · rw [decide_eq_false (by omega)]
      refine enter (args := [_, _, _]) Tryd.func74 rfl rfl rfl ?_
      repeat (first | refine st ?_ | (refine sa ?_; intro _))
      exact VE_ret1 rfl rfl (fun w s => ⟨_, rfl, by rw [decide_eq_false h2], s⟩)
  · rw [decide_eq_false (by omega)]
    refine enter (args := [_, _, _]) Tryd.func74 rfl rfl rfl ?_
    repeat (first | refine st ?_ | (refine sa ?_; intro _))
    exact VE_ret1 rfl rfl (fun w s => ⟨_, rfl, rfl, s⟩)

structure Cfg where
  batch : Int
  message : Int
  buckets : Int
  text : Int
  window : Int
  workers : Int
def Cfg.val (c : Cfg) : Value := .agg #[i64 c.batch, i64 c.message, i64 c.buckets, i64 c.text, i64 c.window, i64 c.workers]
def Cfg.good (c : Cfg) : Prop := (1 ≤ c.batch ∧ c.batch ≤ 256) ∧ (32 ≤ c.message ∧ c.message ≤ 512) ∧ (2 ≤ c.buckets ∧ c.buckets ≤ 64) ∧ (26 + c.message ≤ c.text ∧ 114 ≤ c.text ∧ c.text ≤ 4096) ∧ (2 ≤ c.window ∧ c.window ≤ 16) ∧ (1 ≤ c.workers ∧ c.workers ≤ 16)
instance (c : Cfg) : Decidable c.good := by unfold Cfg.good; infer_instance

theorem check_good (w : World) (c : Cfg) (hg : c.good) :
    Calls Tryd.prog 44 #[c.val] w (Ret fun v w' => v = i64 0 ∧ St w [] [] w') := by
  obtain ⟨a, b, k, d, e, f⟩ := c
  simp only [Cfg.val, Cfg.good] at hg ⊢
  obtain ⟨h1, h2, h3, h4, h5, h6⟩ := hg
  have h7 : 26 + (if b < 88 then 88 else b) ≤ d ∧ d ≤ 4096 := by split <;> omega
  have h8 : 0 ≤ (if b < 88 then (88 : Int) else b) ∧ (if b < 88 then (88 : Int) else b) ≤ 1000 := by split <;> omega
  refine enter (args := [_]) Tryd.func44 rfl rfl rfl ?_
  repeat (first | refine st ?_ | (refine sa ?_; intro _) | (apply VL_call (f := 74); (first | exact .none | exact .yes rfl rfl); exact rfl; exact rfl; exact fun w1 _ => within w1 _ _ _ ; (rintro w1 v w2 s ⟨rfl, t⟩; refine ⟨_, _, s.comp t, ?_⟩)))
  exact VE_ret1 rfl rfl (fun w s => ⟨_, rfl, rfl, s.drop⟩)
theorem check_bad (w : World) (c : Cfg) (hg : ¬ c.good) (hm : -9223372036854775808 ≤ c.message ∧ c.message ≤ 9223372036854775807) :
    Calls Tryd.prog 44 #[c.val] w (Ret fun v w' => v = i64 200 ∧ St w [] [] w') := by
  obtain ⟨a, b, k, d, e, f⟩ := c
  simp only [Cfg.val, Cfg.good] at hg hm ⊢
  have h8 : 0 ≤ (if b < 88 then (88 : Int) else b) ∧ (if b < 88 then (88 : Int) else b) ≤ 9223372036854775807 := by split <;> omega
  by_cases g0 : 1 ≤ a ∧ a ≤ 256
  · skip
    by_cases g1 : 32 ≤ b ∧ b ≤ 512
    · skip
      have h9 : (if b < 88 then (88 : Int) else b) ≤ 1000 := by split <;> omega
      by_cases g2 : 2 ≤ k ∧ k ≤ 64
      · skip
        by_cases g3 : 26 + (if b < 88 then 88 else b) ≤ d ∧ d ≤ 4096
        · skip
          by_cases g4 : 2 ≤ e ∧ e ≤ 16
          · skip
            by_cases g5 : 1 ≤ f ∧ f ≤ 16
            · skip
              exfalso; exact hg ⟨by omega, by omega, by omega, by first | omega | (split at g3 <;> omega), by omega, by omega⟩
            · skip
              refine enter (args := [_]) Tryd.func44 rfl rfl rfl ?_
              repeat (first | refine st ?_ | (refine sa ?_; intro _) | (apply VL_call (f := 74); (first | exact .none | exact .yes rfl rfl); exact rfl; exact rfl; exact fun w1 _ => within w1 _ _ _ ; (rintro w1 v w2 s ⟨rfl, t⟩; refine ⟨_, _, s.comp t, ?_⟩)))
              exact VE_ret1 rfl rfl (fun w s => ⟨_, rfl, rfl, s.drop⟩)
          · skip
            refine enter (args := [_]) Tryd.func44 rfl rfl rfl ?_
            repeat (first | refine st ?_ | (refine sa ?_; intro _) | (apply VL_call (f := 74); (first | exact .none | exact .yes rfl rfl); exact rfl; exact rfl; exact fun w1 _ => within w1 _ _ _ ; (rintro w1 v w2 s ⟨rfl, t⟩; refine ⟨_, _, s.comp t, ?_⟩)))
            exact VE_ret1 rfl rfl (fun w s => ⟨_, rfl, rfl, s.drop⟩)
        · skip
          refine enter (args := [_]) Tryd.func44 rfl rfl rfl ?_
          repeat (first | refine st ?_ | (refine sa ?_; intro _) | (apply VL_call (f := 74); (first | exact .none | exact .yes rfl rfl); exact rfl; exact rfl; exact fun w1 _ => within w1 _ _ _ ; (rintro w1 v w2 s ⟨rfl, t⟩; refine ⟨_, _, s.comp t, ?_⟩)))
          exact VE_ret1 rfl rfl (fun w s => ⟨_, rfl, rfl, s.drop⟩)
      · skip
        refine enter (args := [_]) Tryd.func44 rfl rfl rfl ?_
        repeat (first | refine st ?_ | (refine sa ?_; intro _) | (apply VL_call (f := 74); (first | exact .none | exact .yes rfl rfl); exact rfl; exact rfl; exact fun w1 _ => within w1 _ _ _ ; (rintro w1 v w2 s ⟨rfl, t⟩; refine ⟨_, _, s.comp t, ?_⟩)))
        exact VE_ret1 rfl rfl (fun w s => ⟨_, rfl, rfl, s.drop⟩)
    · skip
      refine enter (args := [_]) Tryd.func44 rfl rfl rfl ?_
      repeat (first | refine st ?_ | (refine sa ?_; intro _) | (apply VL_call (f := 74); (first | exact .none | exact .yes rfl rfl); exact rfl; exact rfl; exact fun w1 _ => within w1 _ _ _ ; (rintro w1 v w2 s ⟨rfl, t⟩; refine ⟨_, _, s.comp t, ?_⟩)))
      exact VE_ret1 rfl rfl (fun w s => ⟨_, rfl, rfl, s.drop⟩)
  · skip
    refine enter (args := [_]) Tryd.func44 rfl rfl rfl ?_
    repeat (first | refine st ?_ | (refine sa ?_; intro _) | (apply VL_call (f := 74); (first | exact .none | exact .yes rfl rfl); exact rfl; exact rfl; exact fun w1 _ => within w1 _ _ _ ; (rintro w1 v w2 s ⟨rfl, t⟩; refine ⟨_, _, s.comp t, ?_⟩)))
    exact VE_ret1 rfl rfl (fun w s => ⟨_, rfl, rfl, s.drop⟩)
theorem check (w : World) (c : Cfg) (hm : -9223372036854775808 ≤ c.message ∧ c.message ≤ 9223372036854775807) :
    Calls Tryd.prog 44 #[c.val] w (Ret fun v w' => v = i64 (if c.good then 0 else 200) ∧ St w [] [] w') := by
  by_cases hg : c.good
  · rw [if_pos hg]; exact check_good w c hg
  · rw [if_neg hg]; exact check_bad w c hg hm

theorem refCheck (w : World) (c : Cfg) :
    Calls Tryd.prog 45 #[c.val] w (Ret fun v w' => v = i64 (if c.good then 0 else 200) ∧ St w [] [] w') := by
  obtain ⟨a, b, k, d, e, f⟩ := c
  have hgood : Cfg.good ⟨a, b, k, d, e, f⟩ ↔ ((1 ≤ a ∧ a ≤ 256 ∧ 32 ≤ b ∧ b ≤ 512 ∧ 2 ≤ k ∧ k ≤ 64) ∧ (d ≤ 4096 ∧ 26 + b ≤ d ∧ 114 ≤ d) ∧ (2 ≤ e ∧ e ≤ 16 ∧ 1 ≤ f ∧ f ≤ 16)) := by
    simp only [Cfg.good]; omega
  simp only [Cfg.val]
  refine enter (args := [_]) Tryd.func45 rfl rfl rfl ?_
  refine VC_seq ?_
  refine VC_region ?_
  repeat (first | refine sr ?_ | (refine sa ?_; intro _))
  refine VE_then ?_
  rename_i p
  refine VC_seq_cut ⟨fun β : Bool => (β = true ↔ (1 ≤ a ∧ a ≤ 256 ∧ 32 ≤ b ∧ b ≤ 512 ∧ 2 ≤ k ∧ k ≤ 64)), fun β => [(1, .pointer (some ⟨p, 0, none⟩)), (3, .bool β)], fun _ => [], fun _ => [Blk p [i64 a, i64 b, i64 k, i64 d, i64 e, i64 f] 29]⟩ ?_ ?_
  · skip
    by_cases q0 : 1 ≤ a
    · skip
      by_cases q1 : a ≤ 256
      · skip
        by_cases q2 : 32 ≤ b
        · skip
          by_cases q3 : b ≤ 512
          · skip
            by_cases q4 : 2 ≤ k
            · skip
              by_cases q5 : k ≤ 64
              · skip
                refine VC_region ?_
                repeat (first | refine sr ?_ | (refine sa ?_; intro _))
                exact VE_fam (decide (k ≤ 64)) (by simp only [decide_eq_true_eq, Bool.false_eq_true, false_iff, iff_true, eq_self]; omega) trivial ⟨rfl, rfl, trivial⟩ (fun _ s => s)
              · skip
                refine VC_region ?_
                repeat (first | refine sr ?_ | (refine sa ?_; intro _))
                exact VE_fam (decide (k ≤ 64)) (by simp only [decide_eq_true_eq, Bool.false_eq_true, false_iff, iff_true, eq_self]; omega) trivial ⟨rfl, rfl, trivial⟩ (fun _ s => s)
            · skip
              refine VC_region ?_
              repeat (first | refine sr ?_ | (refine sa ?_; intro _))
              exact VE_fam false (by simp only [decide_eq_true_eq, Bool.false_eq_true, false_iff, iff_true, eq_self]; omega) trivial ⟨rfl, rfl, trivial⟩ (fun _ s => s)
          · skip
            refine VC_region ?_
            repeat (first | refine sr ?_ | (refine sa ?_; intro _))
            exact VE_fam false (by simp only [decide_eq_true_eq, Bool.false_eq_true, false_iff, iff_true, eq_self]; omega) trivial ⟨rfl, rfl, trivial⟩ (fun _ s => s)
        · skip
          refine VC_region ?_
          repeat (first | refine sr ?_ | (refine sa ?_; intro _))
          exact VE_fam false (by simp only [decide_eq_true_eq, Bool.false_eq_true, false_iff, iff_true, eq_self]; omega) trivial ⟨rfl, rfl, trivial⟩ (fun _ s => s)
      · skip
        refine VC_region ?_
        repeat (first | refine sr ?_ | (refine sa ?_; intro _))
        exact VE_fam false (by simp only [decide_eq_true_eq, Bool.false_eq_true, false_iff, iff_true, eq_self]; omega) trivial ⟨rfl, rfl, trivial⟩ (fun _ s => s)
    · skip
      refine VC_region ?_
      repeat (first | refine sr ?_ | (refine sa ?_; intro _))
      exact VE_fam false (by simp only [decide_eq_true_eq, Bool.false_eq_true, false_iff, iff_true, eq_self]; omega) trivial ⟨rfl, rfl, trivial⟩ (fun _ s => s)
  intro b1 hb1
  dsimp only at hb1 ⊢
  refine VC_seq_cut ⟨fun β : Bool => (32 ≤ b ∧ b ≤ 512 → (β = true ↔ (d ≤ 4096 ∧ 26 + b ≤ d ∧ 114 ≤ d))), fun β => [(1, .pointer (some ⟨p, 0, none⟩)), (3, .bool b1), (4, .bool β)], fun _ => [], fun _ => [Blk p [i64 a, i64 b, i64 k, i64 d, i64 e, i64 f] 29]⟩ ?_ ?_
  · by_cases q0 : d ≤ 4096
    · by_cases qb : 32 ≤ b ∧ b ≤ 512
      · by_cases q1 : 26 + b ≤ d
        · by_cases q2 : 114 ≤ d
          · refine VC_region ?_
            repeat (first | refine sr ?_ | (refine sa ?_; intro _))
            exact VE_fam (decide (114 ≤ d)) (by simp only [decide_eq_true_eq, Bool.false_eq_true, false_iff, iff_true, eq_self]; omega) trivial ⟨rfl, rfl, rfl, trivial⟩ (fun _ s => s)
          · refine VC_region ?_
            repeat (first | refine sr ?_ | (refine sa ?_; intro _))
            exact VE_fam (decide (114 ≤ d)) (by simp only [decide_eq_true_eq, Bool.false_eq_true, false_iff, iff_true, eq_self]; omega) trivial ⟨rfl, rfl, rfl, trivial⟩ (fun _ s => s)
        · refine VC_region ?_
          repeat (first | refine sr ?_ | (refine sa ?_; intro _))
          exact VE_fam false (by simp only [decide_eq_true_eq, Bool.false_eq_true, false_iff, iff_true, eq_self]; omega) trivial ⟨rfl, rfl, rfl, trivial⟩ (fun _ s => s)
      · refine VC_region ?_
        repeat (first | refine sr ?_ | (refine sa ?_; intro _))
        apply VL_bin; exact .yes rfl rfl; exact rfl; exact rfl; exact b_addw; exact rfl
        by_cases q1 : IntKind.i64.wrap (26 + b) ≤ d
        · by_cases q2 : 114 ≤ d
          · repeat (first | refine sr ?_ | (refine sa ?_; intro _))
            exact VE_fam (decide (114 ≤ d)) (by simp only [decide_eq_true_eq, Bool.false_eq_true, false_iff, iff_true, eq_self]; omega) trivial ⟨rfl, rfl, rfl, trivial⟩ (fun _ s => s)
          · repeat (first | refine sr ?_ | (refine sa ?_; intro _))
            exact VE_fam (decide (114 ≤ d)) (by simp only [decide_eq_true_eq, Bool.false_eq_true, false_iff, iff_true, eq_self]; omega) trivial ⟨rfl, rfl, rfl, trivial⟩ (fun _ s => s)
        · repeat (first | refine sr ?_ | (refine sa ?_; intro _))
          exact VE_fam false (by simp only [decide_eq_true_eq, Bool.false_eq_true, false_iff, iff_true, eq_self]; omega) trivial ⟨rfl, rfl, rfl, trivial⟩ (fun _ s => s)
    · refine VC_region ?_
      repeat (first | refine sr ?_ | (refine sa ?_; intro _))
      exact VE_fam false (by simp only [decide_eq_true_eq, Bool.false_eq_true, false_iff, iff_true, eq_self]; omega) trivial ⟨rfl, rfl, rfl, trivial⟩ (fun _ s => s)
  intro b2 hb2
  dsimp only at hb2 ⊢
  refine VC_seq_cut ⟨fun β : Bool => (β = true ↔ (2 ≤ e ∧ e ≤ 16 ∧ 1 ≤ f ∧ f ≤ 16)), fun β => [(3, .bool b1), (4, .bool b2), (5, .bool β)], fun _ => [], fun _ => []⟩ ?_ ?_
  · skip
    by_cases q0 : 2 ≤ e
    · skip
      by_cases q1 : e ≤ 16
      · skip
        by_cases q2 : 1 ≤ f
        · skip
          by_cases q3 : f ≤ 16
          · skip
            refine VC_region ?_
            repeat (first | refine sr ?_ | (refine sa ?_; intro _))
            exact VE_fam (decide (f ≤ 16)) (by simp only [decide_eq_true_eq, Bool.false_eq_true, false_iff, iff_true, eq_self]; omega) trivial ⟨rfl, rfl, rfl, trivial⟩ (fun _ s => s.drop)
          · skip
            refine VC_region ?_
            repeat (first | refine sr ?_ | (refine sa ?_; intro _))
            exact VE_fam (decide (f ≤ 16)) (by simp only [decide_eq_true_eq, Bool.false_eq_true, false_iff, iff_true, eq_self]; omega) trivial ⟨rfl, rfl, rfl, trivial⟩ (fun _ s => s.drop)
        · skip
          refine VC_region ?_
          repeat (first | refine sr ?_ | (refine sa ?_; intro _))
          exact VE_fam false (by simp only [decide_eq_true_eq, Bool.false_eq_true, false_iff, iff_true, eq_self]; omega) trivial ⟨rfl, rfl, rfl, trivial⟩ (fun _ s => s.drop)
      · skip
        refine VC_region ?_
        repeat (first | refine sr ?_ | (refine sa ?_; intro _))
        exact VE_fam false (by simp only [decide_eq_true_eq, Bool.false_eq_true, false_iff, iff_true, eq_self]; omega) trivial ⟨rfl, rfl, rfl, trivial⟩ (fun _ s => s.drop)
    · skip
      refine VC_region ?_
      repeat (first | refine sr ?_ | (refine sa ?_; intro _))
      exact VE_fam false (by simp only [decide_eq_true_eq, Bool.false_eq_true, false_iff, iff_true, eq_self]; omega) trivial ⟨rfl, rfl, rfl, trivial⟩ (fun _ s => s.drop)
  intro b3 hb3
  dsimp only at hb3 ⊢
  cases b1
  · have hg : ¬ Cfg.good ⟨a, b, k, d, e, f⟩ := by rw [hgood]; simp at hb1; omega
    rw [if_neg hg]
    repeat (first | refine st ?_ | (refine sa ?_; intro _))
    exact VE_ret1 rfl rfl (fun w s => ⟨_, rfl, rfl, s⟩)
  · have hb1' := hb1.1 rfl
    cases b2
    · have hg : ¬ Cfg.good ⟨a, b, k, d, e, f⟩ := by rw [hgood]; simp at hb2; omega
      rw [if_neg hg]
      repeat (first | refine st ?_ | (refine sa ?_; intro _))
      exact VE_ret1 rfl rfl (fun w s => ⟨_, rfl, rfl, s⟩)
    · have hb2' := (hb2 (by omega)).1 rfl
      cases b3
      · have hg : ¬ Cfg.good ⟨a, b, k, d, e, f⟩ := by rw [hgood]; simp at hb3; omega
        rw [if_neg hg]
        repeat (first | refine st ?_ | (refine sa ?_; intro _))
        exact VE_ret1 rfl rfl (fun w s => ⟨_, rfl, rfl, s⟩)
      · have hb3' := hb3.1 rfl
        have hg : Cfg.good ⟨a, b, k, d, e, f⟩ := by rw [hgood]; exact ⟨hb1', hb2', hb3'⟩
        rw [if_pos hg]
        repeat (first | refine st ?_ | (refine sa ?_; intro _))
        exact VE_ret1 rfl rfl (fun w s => ⟨_, rfl, rfl, s⟩)
end Go.Proofs.YtpboahlpgfglkaaDoor.X
