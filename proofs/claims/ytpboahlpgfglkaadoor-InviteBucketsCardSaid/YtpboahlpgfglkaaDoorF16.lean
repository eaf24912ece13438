/-
  Contract: awake.
-/
import Derived.Test.YtpboahlpgfglkaaDoorF15
namespace Go.Proofs.YtpboahlpgfglkaaDoor.X
open Go Go.RowKit
set_option linter.unusedVariables false
set_option linter.unusedSimpArgs false
set_option maxRecDepth 100000

theorem small6 : talkRep smallCfg false (List.replicate 32 0) = (List.replicate 33 0, 0) := by kernel_rfl
theorem smallM : -9223372036854775808 ≤ smallCfg.message ∧ smallCfg.message ≤ 9223372036854775807 := by unfold smallCfg; decide
theorem cfgZM : -9223372036854775808 ≤ cfgZ.message ∧ cfgZ.message ≤ 9223372036854775807 := by unfold cfgZ; decide

set_option maxHeartbeats 4000000 in
theorem awake (w : World) : Calls Tryd.prog 52 #[] w (Ret fun v w' => v = .bool true ∧ St w [] [] w') := by
  refine enter (args := []) Tryd.func52 rfl rfl rfl ?_
  repeat (first | refine st ?_ | (refine sa ?_; intro _))
  apply VL_call; exact .none; exact rfl; exact rfl
  · intro w1 s; exact small w1
  rintro w1 v w2 s ⟨rfl, t⟩
  refine ⟨_, _, s.comp t, ?_⟩
  repeat (first | refine st ?_ | (refine sa ?_; intro _))
  apply VL_call; exact .none; exact rfl; exact rfl
  · intro w1 s; have q := requestSize w1 smallCfg 1 smallM; rw [small1] at q; exact q
  rintro w1 v w2 s ⟨rfl, t⟩
  refine ⟨_, _, s.comp t, ?_⟩
  repeat (first | refine st ?_ | (refine sa ?_; intro _))
  apply VL_call; exact .none; exact rfl; exact rfl
  · intro w1 s; exact small w1
  rintro w1 v w2 s ⟨rfl, t⟩
  refine ⟨_, _, s.comp t, ?_⟩
  repeat (first | refine st ?_ | (refine sa ?_; intro _))
  apply VL_call; exact .none; exact rfl; exact rfl
  · intro w1 s; have q := replySize w1 smallCfg 2 smallM; rw [small2] at q; exact q
  rintro w1 v w2 s ⟨rfl, t⟩
  refine ⟨_, _, s.comp t, ?_⟩
  repeat (first | refine st ?_ | (refine sa ?_; intro _))
  apply VL_call; exact .none; exact rfl; exact rfl
  · intro w1 s; exact small w1
  rintro w1 v w2 s ⟨rfl, t⟩
  refine ⟨_, _, s.comp t, ?_⟩
  repeat (first | refine st ?_ | (refine sa ?_; intro _))
  apply VL_call; exact .none; exact rfl; exact rfl
  · intro w1 s; have q := pages w1 smallCfg 2 4 smallM; rw [small3] at q; exact q
  rintro w1 v w2 s ⟨rfl, t⟩
  refine ⟨_, _, s.comp t, ?_⟩
  repeat (first | refine sz ?_ | (refine sa ?_; intro _))
  refine VC_seq_cut ⟨fun i : Ent × Option Addr × Nat => True, fun i => [(1, i64 48), (2, i64 0), (3, i64 16), (4, i64 0), (5, i64 6), (6, i64 0), (7, .slice i.2.1 33 i.2.2), (8, i64 0)], fun _ => [], fun _ => []⟩ ?_ ?_
  · refine VC_draw (S := fun w' => St w [] [] w') mixed (fun _ h => h) ?_
    have fin : ∀ (w5 : World) (A0 : Option Addr) (e0 : Ent), OwnSl e0 A0 32 5 (List.replicate 32 (u8 0)) → St w [] [e0] w5 →
        Calls Tryd.prog 19 #[smallCfg.val, .bool false, .slice A0 32 32] w5 (Ret (Ans (List.replicate 33 0) 0 w5)) := by
      intro w5 A0 e0 h0 s5
      have q := talkReply w5 smallCfg false A0 32 (List.replicate 32 0) (by have := s5.rdO (k := 0) rfl h0; simpa using this) smallM
      rw [small6] at q
      simpa using q
    apply VA_two 0 1; exact rfl; exact rfl; kernel_rfl
    rotate_left
    · refine VL_makeSlice .none rfl rfl rfl (l' := 32) (c' := 32) rfl rfl (by omega) (by omega) (by omega) rfl (fun e0 A0 h0 => ?_)
      refine VL_nil (VA_back (fun w s => s.drop) ?_)
      apply VA_step 0; exact rfl; kernel_rfl
      apply VL_call; exact .none; exact rfl; exact rfl
      · intro w1 s; exact small w1
      rintro w1 v w2 s ⟨rfl, t⟩
      refine ⟨_, _, s.comp t, VL_nil (VA_back (fun w s => s.drop) ?_)⟩
      apply VA_step 2; exact rfl; kernel_rfl
      apply VL_call; exact .none; exact rfl; exact rfl
      · intro w5 s5; exact fin w5 A0 e0 h0 s5
      rintro w1 v w2 s ⟨e2, A2, c2, rfl, ho, t⟩
      refine ⟨_, _, s.comp0 t, VL_nil (VA_back (fun w s => s.drop) ?_)⟩
      refine tk 3 ?_
      refine tk 4 ?_
      refine tk 5 ?_
      refine tk 6 ?_
      refine tk 7 ?_
      exact VA_done (by kernel_rfl) (VE_fam (e2, A2, c2) trivial trivial ⟨rfl, rfl, rfl, rfl, rfl, rfl, rfl, rfl, trivial⟩ (fun _ s => s.drop))
    · apply VL_call; exact .none; exact rfl; exact rfl
      · intro w1 s; exact small w1
      rintro w1 v w2 s ⟨rfl, t⟩
      refine ⟨_, _, s.comp t, VL_nil (VA_back (fun w s => s.drop) ?_)⟩
      apply VA_step 1; exact rfl; kernel_rfl
      refine VL_makeSlice .none rfl rfl rfl (l' := 32) (c' := 32) rfl rfl (by omega) (by omega) (by omega) rfl (fun e0 A0 h0 => ?_)
      refine VL_nil (VA_back (fun w s => s.drop) ?_)
      apply VA_step 2; exact rfl; kernel_rfl
      apply VL_call; exact .none; exact rfl; exact rfl
      · intro w5 s5; exact fin w5 A0 e0 h0 s5
      rintro w1 v w2 s ⟨e2, A2, c2, rfl, ho, t⟩
      refine ⟨_, _, s.comp0 t, VL_nil (VA_back (fun w s => s.drop) ?_)⟩
      refine tk 3 ?_
      refine tk 4 ?_
      refine tk 5 ?_
      refine tk 6 ?_
      refine tk 7 ?_
      exact VA_done (by kernel_rfl) (VE_fam (e2, A2, c2) trivial trivial ⟨rfl, rfl, rfl, rfl, rfl, rfl, rfl, rfl, trivial⟩ (fun _ s => s.drop))
  rintro ⟨e2, A2, c2⟩ -
  dsimp only
  repeat (first | refine st ?_ | (refine sa ?_; intro _))
  apply VL_call; exact .none; exact rfl; exact rfl
  · intro w1 s; exact small w1
  rintro w1 v w2 s ⟨rfl, t⟩
  refine ⟨_, _, s.comp t, ?_⟩
  repeat (first | refine st ?_ | (refine sa ?_; intro _))
  apply VL_call; exact .none; exact rfl; exact rfl
  · intro w1 s; exact check_good w1 smallCfg small4
  rintro w1 v w2 s ⟨rfl, t⟩
  refine ⟨_, _, s.comp t, ?_⟩
  repeat (first | refine st ?_ | (refine sa ?_; intro _))
  refine VL_build (v := cfgZ.val) (.yes rfl rfl) rfl (fun w => by kernel_rfl) rfl ?_
  repeat (first | refine st ?_ | (refine sa ?_; intro _))
  apply VL_call; exact .yes rfl rfl; exact rfl; exact rfl
  · intro w1 s; exact check_bad w1 cfgZ small5 cfgZM
  rintro w1 v w2 s ⟨rfl, t⟩
  refine ⟨_, _, s.comp t, ?_⟩
  repeat (first | refine st ?_ | (refine sa ?_; intro _))
  exact VE_ret1 rfl rfl (fun w s => ⟨_, rfl, rfl, s.drop⟩)
end Go.Proofs.YtpboahlpgfglkaaDoor.X
