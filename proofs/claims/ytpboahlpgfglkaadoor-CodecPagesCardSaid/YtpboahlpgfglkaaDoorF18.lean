/-
  Contract: the statement CodecPages.
-/
import Derived.Test.YtpboahlpgfglkaaDoorF16
import Derived.Test.YtpboahlpgfglkaaDoorF17
namespace Go.Proofs.YtpboahlpgfglkaaDoor.X
open Go Go.RowKit
set_option linter.unusedVariables false
set_option linter.unusedSimpArgs false
set_option maxRecDepth 100000

set_option maxHeartbeats 4000000 in
theorem codecPages (w : World) (c : Cfg) (kind n : Int) (hm : -9223372036854775808 ≤ c.message ∧ c.message ≤ 9223372036854775807) :
    Calls Tryd.prog 8 #[c.val, i64 kind, i64 n] w (Ret fun v w' => v = .bool true ∧ St w [] [] w') := by
  refine enter (args := [_, _, _]) Tryd.func8 rfl rfl rfl ?_
  repeat (first | refine st ?_ | (refine sa ?_; intro _))
  rename_i cb
  apply VL_call; exact .none; exact rfl; exact rfl
  · intro w1 s; exact awake w1
  rintro w1 v w2 s ⟨rfl, t⟩
  refine ⟨_, _, s.comp t, ?_⟩
  repeat (first | refine st ?_ | (refine sa ?_; intro _))
  apply VL_loadW (k := 0); exact .none; exact rfl; exact rfl; exact rfl; exact rfl; exact rfl
  repeat (first | refine st ?_ | (refine sa ?_; intro _))
  by_cases hok : c.good ∧ (kind = 1 ∨ kind = 2) ∧ 0 ≤ n ∧ n ≤ c.batch
  · obtain ⟨hg, hk, hn0, hnb⟩ := hok
    obtain ⟨m, rfl⟩ := Int.eq_ofNat_of_zero_le hn0
    obtain ⟨p, hp, hp0, hp3, hpm, hpt⟩ := cfgPages_ok hg hk hnb
    have hg' := hg
    unfold Cfg.good at hg'
    apply VL_call; exact .none; exact rfl; exact rfl
    · intro w1 s; have q := pages w1 c kind m hm; rw [hp] at q; exact q
    rintro w1 v w2 s ⟨rfl, t⟩
    refine ⟨_, _, s.comp t, ?_⟩
    repeat (first | refine st ?_ | (refine sa ?_; intro _))
    apply VL_loadW (k := 0); exact .none; exact rfl; exact rfl; exact rfl; exact rfl; exact rfl
    apply VL_call; exact .none; exact rfl; exact rfl
    · intro w1 s; exact check_good w1 c hg
    rintro w1 v w2 s ⟨rfl, t⟩
    refine ⟨_, _, s.comp t, ?_⟩
    obtain ⟨q1, hq1, hq1p⟩ := hpm (m - 1) (by omega)
    obtain ⟨tt, htt⟩ : ∃ tt : Int, tt = if 4096 < c.text + 1 then 4096 else c.text + 1 := ⟨_, rfl⟩
    have ht1 : c.text ≤ tt ∧ tt ≤ 4096 := by rw [htt]; split <;> omega
    obtain ⟨q2, hq2, hq2p⟩ := hpt tt ht1.1 ht1.2
    have heq : (decide ((p : Int) = 0) == decide ((m : Int) = 0)) = true := by
      by_cases h0 : m = 0
      · have := hp0.2 h0
        subst this h0; rfl
      · have h1 : ¬ p = 0 := fun e => h0 (hp0.1 e)
        rw [decide_eq_false (by omega), decide_eq_false (by omega)]; rfl
    rcases hk with hk1 | hk1
    all_goals
      repeat (first | refine st ?_ | (refine sa ?_; intro _))
      apply VL_neB; exact .yes rfl rfl; exact rfl; exact rfl; exact rfl
      rw [heq, Bool.not_true]
      repeat (first | refine st ?_ | (refine sa ?_; intro _))
      by_cases hm0 : m = 0
      · repeat (first | refine st ?_ | (refine sa ?_; intro _))
        apply VL_loadW (k := 0); exact .none; exact rfl; exact rfl; exact rfl; exact rfl; exact rfl
        repeat (first | refine st ?_ | (refine sa ?_; intro _))
        rename_i db
        apply VL_storeW (k := 1); exact .none; exact rfl; exact rfl; exact rfl; exact rfl; exact rfl; exact rfl; exact rfl; exact NF.zero _
        repeat (first | refine st ?_ | (refine sa ?_; intro _))
        apply VL_storeH1 (k := 1); exact .none; exact rfl; exact rfl; exact rfl; exact rfl; (simp); exact NF.zero _
        repeat (first | refine st ?_ | (refine sa ?_; intro _))
        apply VL_loadW (k := 1); exact .none; exact rfl; exact rfl; exact rfl; exact rfl; exact rfl
        repeat (first | refine st ?_ | (refine sa ?_; intro _))
        apply VL_call; exact .none; exact rfl; exact rfl
        · intro w1 s; have q := pages w1 { c with text := tt } kind m hm; rw [hq2, htt] at q; exact q
        rintro w1 v w2 s ⟨rfl, t⟩
        refine ⟨_, _, s.comp t, ?_⟩
        repeat (first | refine st ?_ | (refine sa ?_; intro _))
        exact VE_ret1 rfl rfl (fun w s => ⟨_, rfl, by simpa using hq2p, s.drop⟩)
      · repeat (first | refine st ?_ | (refine sa ?_; intro _))
        apply VL_loadW (k := 0); exact .none; exact rfl; exact rfl; exact rfl; exact rfl; exact rfl
        repeat (first | refine st ?_ | (refine sa ?_; intro _))
        apply VL_call; exact .none; exact rfl; exact rfl
        · intro w1 s; have q := pages w1 c kind ((m - 1 : Nat) : Int) hm; rw [hq1, show ((m - 1 : Nat) : Int) = (m : Int) - 1 by omega] at q; exact q
        rintro w1 v w2 s ⟨rfl, t⟩
        refine ⟨_, _, s.comp t, ?_⟩
        repeat (first | refine st ?_ | (refine sa ?_; intro _))
        apply VL_loadW (k := 0); exact .none; exact rfl; exact rfl; exact rfl; exact rfl; exact rfl
        repeat (first | refine st ?_ | (refine sa ?_; intro _))
        rename_i db
        apply VL_storeW (k := 1); exact .none; exact rfl; exact rfl; exact rfl; exact rfl; exact rfl; exact rfl; exact rfl; exact NF.zero _
        repeat (first | refine st ?_ | (refine sa ?_; intro _))
        apply VL_storeH1 (k := 1); exact .none; exact rfl; exact rfl; exact rfl; exact rfl; (simp); exact NF.zero _
        repeat (first | refine st ?_ | (refine sa ?_; intro _))
        apply VL_loadW (k := 1); exact .none; exact rfl; exact rfl; exact rfl; exact rfl; exact rfl
        repeat (first | refine st ?_ | (refine sa ?_; intro _))
        apply VL_call; exact .none; exact rfl; exact rfl
        · intro w1 s; have q := pages w1 { c with text := tt } kind m hm; rw [hq2, htt] at q; exact q
        rintro w1 v w2 s ⟨rfl, t⟩
        refine ⟨_, _, s.comp t, ?_⟩
        repeat (first | refine st ?_ | (refine sa ?_; intro _))
        exact VE_ret1 rfl rfl (fun w s => ⟨_, rfl, by simpa using hq2p, s.drop⟩)
  · obtain ⟨e, he, hne⟩ := cfgPages_bad hok
    apply VL_call; exact .none; exact rfl; exact rfl
    · intro w1 s; have q := pages w1 c kind n hm; rw [he] at q; exact q
    rintro w1 v w2 s ⟨rfl, t⟩
    refine ⟨_, _, s.comp t, ?_⟩
    repeat (first | refine st ?_ | (refine sa ?_; intro _))
    apply VL_loadW (k := 0); exact .none; exact rfl; exact rfl; exact rfl; exact rfl; exact rfl
    apply VL_call; exact .none; exact rfl; exact rfl
    · intro w1 s; exact check w1 c hm
    rintro w1 v w2 s ⟨rfl, t⟩
    refine ⟨_, _, s.comp t, ?_⟩
    by_cases hg : c.good
    · rw [if_pos hg]
      by_cases h1 : kind = 1
      · have h2 : n < 0 ∨ ¬ n < 0 ∧ c.batch < n := by
          rcases Classical.em (n < 0) with h | h
          · exact .inl h
          · exact .inr ⟨h, Int.not_le.1 fun h' => hok ⟨hg, .inl h1, by omega, h'⟩⟩
        rcases h2 with h2 | ⟨h2, h3⟩
        all_goals
          repeat (first | refine st ?_ | (refine sa ?_; intro _))
          exact VE_ret1 rfl rfl (fun w s => ⟨_, rfl, by simp, s.drop⟩)
      · by_cases h1' : kind = 2
        · have h2 : n < 0 ∨ ¬ n < 0 ∧ c.batch < n := by
            rcases Classical.em (n < 0) with h | h
            · exact .inl h
            · exact .inr ⟨h, Int.not_le.1 fun h' => hok ⟨hg, .inr h1', by omega, h'⟩⟩
          rcases h2 with h2 | ⟨h2, h3⟩
          all_goals
            repeat (first | refine st ?_ | (refine sa ?_; intro _))
            exact VE_ret1 rfl rfl (fun w s => ⟨_, rfl, by simp, s.drop⟩)
        · repeat (first | refine st ?_ | (refine sa ?_; intro _))
          exact VE_ret1 rfl rfl (fun w s => ⟨_, rfl, by simp, s.drop⟩)
    · rw [if_neg hg]
      repeat (first | refine st ?_ | (refine sa ?_; intro _))
      exact VE_ret1 rfl rfl (fun w s => ⟨_, rfl, by simp, s.drop⟩)
end Go.Proofs.YtpboahlpgfglkaaDoor.X
