/-
  Contracts: Pages, by the program and by the document.
-/
import Derived.Test.YtpboahlpgfglkaaDoorF12
namespace Go.Proofs.YtpboahlpgfglkaaDoor.X
open Go Go.RowKit
set_option linter.unusedVariables false
set_option linter.unusedSimpArgs false
set_option maxRecDepth 100000

theorem pages (w : World) (c : Cfg) (kind n : Int) (hm : -9223372036854775808 ≤ c.message ∧ c.message ≤ 9223372036854775807) :
    Calls Tryd.prog 50 #[c.val, i64 kind, i64 n] w (Ret fun v w' => v = .tuple #[i64 (cfgPages c kind n).1, i64 (cfgPages c kind n).2] ∧ St w [] [] w') := by
  refine enter (args := [_, _, _]) Tryd.func50 rfl rfl rfl ?_
  repeat (first | refine st ?_ | (refine sa ?_; intro _))
  apply VL_loadW (k := 0); exact .none; exact rfl; exact rfl; exact rfl; exact rfl; exact rfl
  repeat (first | refine st ?_ | (refine sa ?_; intro _))
  apply VL_call; exact .none; exact rfl; exact rfl
  · intro w3 s3; exact measure w3 c kind hm
  rintro w3 v w4 s3 ⟨rfl, t3⟩
  refine ⟨_, _, s3.comp t3, ?_⟩
  unfold cfgPages
  by_cases he : (cfgSizes c kind).2.2.2 = 0
  · obtain ⟨hg, hs1, hs2, hk⟩ := cfgSizes_ok he
    rw [if_neg (by simpa using he)]
    obtain ⟨⟨r1, r2, r3, e⟩, hq⟩ : ∃ q, cfgSizes c kind = q := ⟨_, rfl⟩
    rw [hq] at he hs1 hs2 ⊢
    dsimp only at he hs1 hs2 ⊢
    subst he
    have hg' := hg
    unfold Cfg.good at hg'
    rename_i cb
    repeat (first | refine st ?_ | (refine sa ?_; intro _))
    rename_i rb
    apply VL_storeW (k := 1); exact .none; exact rfl; exact rfl; exact rfl; exact rfl; exact rfl; exact rfl; exact rfl; exact NF.zero _
    by_cases hn : n < 0
    · rw [if_pos hn]
      repeat (first | refine st ?_ | (refine sa ?_; intro _))
      exact VE_ret2 rfl rfl rfl (fun w s => ⟨_, rfl, rfl, s.drop⟩)
    · rw [if_neg hn]
      by_cases hb : c.batch < n
      · rw [if_pos hb]
        repeat (first | refine st ?_ | (refine sa ?_; intro _))
        exact VE_ret2 rfl rfl rfl (fun w s => ⟨_, rfl, rfl, s.drop⟩)
      · rw [if_neg hb]
        obtain ⟨n, rfl⟩ := Int.eq_ofNat_of_zero_le (show 0 ≤ n by omega)
        obtain ⟨r, hr⟩ := Int.eq_ofNat_of_zero_le (show 0 ≤ r3 by omega)
        obtain ⟨t, ht⟩ := Int.eq_ofNat_of_zero_le (show 0 ≤ c.text by omega)
        subst hr
        obtain ⟨cba, cme, cbu, cte, cwi, cwo⟩ := c
        dsimp only at ht hg' hb hs2 ⊢
        subst ht
        simp only [Int.toNat_natCast]
        have hp := pad_bounds n (by omega)
        have hd1 : 1 ≤ t / r := (Nat.le_div_iff_mul_le (by omega)).2 (by omega)
        have hd2 : 1 ≤ t / 32 := (Nat.le_div_iff_mul_le (by omega)).2 (by omega)
        have hc1 := ceil_le (pad n) (t / r) hd1
        have hc2 := ceil_le n (t / 32) hd2
        obtain ⟨p1, hp1⟩ : ∃ p, p = ceilDiv (pad n) (t / r) := ⟨_, rfl⟩
        obtain ⟨p2, hp2⟩ : ∃ p, p = ceilDiv n (t / 32) := ⟨_, rfl⟩
        rw [← hp1] at hc1 ⊢
        rw [← hp2] at hc2 ⊢
        repeat (first | refine st ?_ | (refine sa ?_; intro _))
        refine VC_draw (S := fun w' => St w [] [Blk cb [i64 cba, i64 cme, i64 cbu, i64 (t : Int), i64 cwi, i64 cwo] 29, Blk rb [i64 r1, i64 r2, i64 (r : Int)] 97] w') mixed (fun _ h => h) ?_
        refine tk 0 ?_
        refine tk 2 ?_
        refine tk 3 ?_
        refine tk 4 ?_
        refine tk 5 ?_
        apply VA_step 1; exact rfl; kernel_rfl
        apply VL_call; exact .none; exact rfl; exact rfl
        · intro w5 s5; exact netPad w5 n (by omega)
        rintro w5 v w6 s5 ⟨rfl, t5⟩
        refine ⟨_, _, s5.comp t5, VL_nil (VA_back (fun w s => s) ?_)⟩
        apply VA_step 6; exact rfl; kernel_rfl
        apply VL_call; exact .none; exact rfl; exact rfl
        · intro w7 s7; exact slotsPages w7 (pad n) r t (by omega) (by omega) (by omega) (by omega)
        rintro w7 v w8 s7 ⟨rfl, t7⟩
        rw [← hp1]
        refine ⟨_, _, s7.comp t7, VL_nil (VA_back (fun w s => s) ?_)⟩
        refine tk 7 ?_
        refine tk 8 ?_
        refine tk 9 ?_
        refine tk 10 ?_
        refine tk 11 ?_
        refine VA_done (by kernel_rfl) ?_
        repeat (first | refine st ?_ | (refine sa ?_; intro _))
        apply VL_call; exact .none; exact rfl; exact rfl
        · intro w9 s9; exact slotsPages w9 n 32 t (by omega) (by omega) (by omega) (by omega)
        rintro w9 v w10 s9 ⟨rfl, t9⟩
        rw [← hp2]
        refine ⟨_, _, s9.comp t9, ?_⟩
        repeat (first | refine st ?_ | (refine sa ?_; intro _))
        refine VE_ret2 rfl rfl rfl (fun w s => ⟨_, rfl, ?_, s.drop⟩)
        simp
  · rw [if_pos (by simpa using he)]
    obtain ⟨⟨r1, r2, r3, e⟩, hq⟩ : ∃ q, cfgSizes c kind = q := ⟨_, rfl⟩
    rw [hq] at he ⊢
    dsimp only at he ⊢
    repeat (first | refine st ?_ | (refine sa ?_; intro _))
    apply VL_storeW (k := 1); exact .none; exact rfl; exact rfl; exact rfl; exact rfl; exact rfl; exact rfl; exact rfl; exact NF.zero _
    repeat (first | refine st ?_ | (refine sa ?_; intro _))
    exact VE_ret2 rfl rfl rfl (fun w s => ⟨_, rfl, rfl, s.drop⟩)

theorem refPages (w : World) (c : Cfg) (kind n : Int) :
    Calls Tryd.prog 51 #[c.val, i64 kind, i64 n] w (Ret fun v w' => v = .tuple #[i64 (cfgPages c kind n).1, i64 (cfgPages c kind n).2] ∧ St w [] [] w') := by
  refine enter (args := [_, _, _]) Tryd.func51 rfl rfl rfl ?_
  repeat (first | refine st ?_ | (refine sa ?_; intro _))
  apply VL_loadW (k := 0); exact .none; exact rfl; exact rfl; exact rfl; exact rfl; exact rfl
  repeat (first | refine st ?_ | (refine sa ?_; intro _))
  apply VL_call; exact .none; exact rfl; exact rfl
  · intro w3 s3; exact refSizes w3 c kind
  rintro w3 v w4 s3 ⟨rfl, t3⟩
  refine ⟨_, _, s3.comp t3, ?_⟩
  unfold cfgPages
  by_cases he : (cfgSizes c kind).2.2.2 = 0
  · obtain ⟨hg, hs1, hs2, hk⟩ := cfgSizes_ok he
    rw [if_neg (by simpa using he)]
    obtain ⟨⟨r1, r2, r3, e⟩, hq⟩ : ∃ q, cfgSizes c kind = q := ⟨_, rfl⟩
    rw [hq] at he hs1 hs2 ⊢
    dsimp only at he hs1 hs2 ⊢
    subst he
    have hg' := hg
    unfold Cfg.good at hg'
    rename_i cb
    by_cases hn : n < 0
    · rw [if_pos hn]
      repeat (first | refine st ?_ | (refine sa ?_; intro _))
      exact VE_ret2 rfl rfl rfl (fun w s => ⟨_, rfl, rfl, s.drop⟩)
    · rw [if_neg hn]
      by_cases hb : c.batch < n
      · rw [if_pos hb]
        repeat (first | refine st ?_ | (refine sa ?_; intro _))
        exact VE_ret2 rfl rfl rfl (fun w s => ⟨_, rfl, rfl, s.drop⟩)
      · rw [if_neg hb]
        obtain ⟨n, rfl⟩ := Int.eq_ofNat_of_zero_le (show 0 ≤ n by omega)
        obtain ⟨r, hr⟩ := Int.eq_ofNat_of_zero_le (show 0 ≤ r3 by omega)
        obtain ⟨t, ht⟩ := Int.eq_ofNat_of_zero_le (show 0 ≤ c.text by omega)
        subst hr
        obtain ⟨cba, cme, cbu, cte, cwi, cwo⟩ := c
        dsimp only at ht hg' hb hs2 ⊢
        subst ht
        simp only [Int.toNat_natCast]
        have hp := pad_bounds n (by omega)
        have hd1 : 1 ≤ t / r := (Nat.le_div_iff_mul_le (by omega)).2 (by omega)
        have hd2 : 1 ≤ t / 32 := (Nat.le_div_iff_mul_le (by omega)).2 (by omega)
        have hc1 := ceil_le (pad n) (t / r) hd1
        have hc2 := ceil_le n (t / 32) hd2
        obtain ⟨p1, hp1⟩ : ∃ p, p = ceilDiv (pad n) (t / r) := ⟨_, rfl⟩
        obtain ⟨p2, hp2⟩ : ∃ p, p = ceilDiv n (t / 32) := ⟨_, rfl⟩
        rw [← hp1] at hc1 ⊢
        rw [← hp2] at hc2 ⊢
        repeat (first | refine st ?_ | (refine sa ?_; intro _))
        refine VC_draw (S := fun w' => St w [] [Blk cb [i64 cba, i64 cme, i64 cbu, i64 (t : Int), i64 cwi, i64 cwo] 29] w') mixed (fun _ h => h) ?_
        refine tk 0 ?_
        refine tk 2 ?_
        refine tk 3 ?_
        refine tk 4 ?_
        refine tk 6 ?_
        refine tk 7 ?_
        refine tk 8 ?_
        apply VA_step 1; exact rfl; kernel_rfl
        apply VL_call; exact .none; exact rfl; exact rfl
        · intro w5 s5; exact refPad w5 n (by omega)
        rintro w5 v w6 s5 ⟨rfl, t5⟩
        refine ⟨_, _, s5.comp t5, VL_nil (VA_back (fun w s => s) ?_)⟩
        apply VA_step 5; exact rfl; kernel_rfl
        apply VL_call; exact .none; exact rfl; exact rfl
        · intro w7 s7; exact refPagesIn w7 (pad n) r t (by omega) (by omega) (by omega) (by omega)
        rintro w7 v w8 s7 ⟨rfl, t7⟩
        rw [← hp1]
        refine ⟨_, _, s7.comp t7, VL_nil (VA_back (fun w s => s) ?_)⟩
        apply VA_step 9; exact rfl; kernel_rfl
        apply VL_call; exact .none; exact rfl; exact rfl
        · intro w9 s9; exact refPagesIn w9 n 32 t (by omega) (by omega) (by omega) (by omega)
        rintro w9 v w10 s9 ⟨rfl, t9⟩
        rw [← hp2]
        refine ⟨_, _, s9.comp t9, VL_nil (VA_back (fun w s => s) ?_)⟩
        refine tk 10 ?_
        refine tk 11 ?_
        refine tk 12 ?_
        refine VA_done (by kernel_rfl) ?_
        repeat (first | refine st ?_ | (refine sa ?_; intro _))
        refine VE_ret2 rfl rfl rfl (fun w s => ⟨_, rfl, ?_, s.drop⟩)
        simp
  · rw [if_pos (by simpa using he)]
    obtain ⟨⟨r1, r2, r3, e⟩, hq⟩ : ∃ q, cfgSizes c kind = q := ⟨_, rfl⟩
    rw [hq] at he ⊢
    dsimp only at he ⊢
    repeat (first | refine st ?_ | (refine sa ?_; intro _))
    exact VE_ret2 rfl rfl rfl (fun w s => ⟨_, rfl, rfl, s.drop⟩)
end Go.Proofs.YtpboahlpgfglkaaDoor.X
