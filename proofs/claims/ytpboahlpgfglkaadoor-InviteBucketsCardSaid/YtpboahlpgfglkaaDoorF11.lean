/-
  Contracts: the sizes of a kind of rounds; pages.
-/
import Derived.Test.YtpboahlpgfglkaaDoorF10
namespace Go.Proofs.YtpboahlpgfglkaaDoor.X
open Go Go.RowKit
set_option linter.unusedVariables false
set_option linter.unusedSimpArgs false
set_option maxRecDepth 100000

/-- request, reply, record; the error -/
def cfgSizes (c : Cfg) (kind : Int) : Int × Int × Int × Int :=
  if c.good then (if kind = 1 then (16 + c.message, 1 + c.message, 26 + c.message, 0) else if kind = 2 then (92, 16, 114, 0) else (0, 0, 0, 253)) else (0, 0, 0, 200)

theorem measure (w : World) (c : Cfg) (kind : Int) (hm : -9223372036854775808 ≤ c.message ∧ c.message ≤ 9223372036854775807) :
    Calls Tryd.prog 75 #[c.val, i64 kind] w (Ret fun v w' => v = .tuple #[.agg #[i64 (cfgSizes c kind).1, i64 (cfgSizes c kind).2.1, i64 (cfgSizes c kind).2.2.1], i64 (cfgSizes c kind).2.2.2] ∧ St w [] [] w') := by
  refine enter (args := [_, _]) Tryd.func75 rfl rfl rfl ?_
  repeat (first | refine st ?_ | (refine sa ?_; intro _))
  apply VL_loadW (k := 0); exact .none; exact rfl; exact rfl; exact rfl; exact rfl; exact rfl
  apply VL_call; exact .none; exact rfl; exact rfl
  · intro w3 s3; exact check w3 c hm
  rintro w3 v w4 s3 ⟨rfl, t3⟩
  refine ⟨_, _, s3.comp t3, ?_⟩
  unfold cfgSizes
  by_cases hg : c.good
  · have hg' := hg
    unfold Cfg.good at hg'
    rw [if_pos hg, if_pos hg]
    by_cases hk : kind = 1
    · rw [if_pos hk]
      repeat (first | refine st ?_ | (refine sa ?_; intro _))
      refine VL_build (v := .agg #[i64 (16 + c.message), i64 (1 + c.message), i64 (26 + c.message)]) .none rfl (fun w => by kernel_rfl) rfl ?_
      repeat (first | refine st ?_ | (refine sa ?_; intro _))
      apply VL_storeW (k := 1); exact .none; exact rfl; exact rfl; exact rfl; exact rfl; exact rfl; exact rfl; exact rfl; exact NF.zero _
      repeat (first | refine st ?_ | (refine sa ?_; intro _))
      apply VE_retCT (k := 1); exact rfl; infer_instance; exact rfl; exact rfl; exact rfl; exact rfl; exact rfl
      exact fun w s => ⟨_, rfl, rfl, s.drop⟩
    · rw [if_neg hk]
      by_cases hk2 : kind = 2
      · rw [if_pos hk2]
        repeat (first | refine st ?_ | (refine sa ?_; intro _))
        refine VL_build (v := .agg #[i64 92, i64 16, i64 114]) .none rfl (fun w => by kernel_rfl) rfl ?_
        repeat (first | refine st ?_ | (refine sa ?_; intro _))
        apply VL_storeW (k := 1); exact .none; exact rfl; exact rfl; exact rfl; exact rfl; exact rfl; exact rfl; exact rfl; exact NF.zero _
        repeat (first | refine st ?_ | (refine sa ?_; intro _))
        apply VE_retCT (k := 1); exact rfl; infer_instance; exact rfl; exact rfl; exact rfl; exact rfl; exact rfl
        exact fun w s => ⟨_, rfl, rfl, s.drop⟩
      · rw [if_neg hk2]
        repeat (first | refine st ?_ | (refine sa ?_; intro _))
        refine VL_build (v := .agg #[i64 0, i64 0, i64 0]) .none rfl (fun w => by kernel_rfl) rfl ?_
        repeat (first | refine st ?_ | (refine sa ?_; intro _))
        apply VL_storeW (k := 1); exact .none; exact rfl; exact rfl; exact rfl; exact rfl; exact rfl; exact rfl; exact rfl; exact NF.zero _
        repeat (first | refine st ?_ | (refine sa ?_; intro _))
        apply VE_retCT (k := 1); exact rfl; infer_instance; exact rfl; exact rfl; exact rfl; exact rfl; exact rfl
        exact fun w s => ⟨_, rfl, rfl, s.drop⟩
  · rw [if_neg hg, if_neg hg]
    repeat (first | refine st ?_ | (refine sa ?_; intro _))
    refine VL_build (v := .agg #[i64 0, i64 0, i64 0]) .none rfl (fun w => by kernel_rfl) rfl ?_
    repeat (first | refine st ?_ | (refine sa ?_; intro _))
    apply VL_storeW (k := 1); exact .none; exact rfl; exact rfl; exact rfl; exact rfl; exact rfl; exact rfl; exact rfl; exact NF.zero _
    repeat (first | refine st ?_ | (refine sa ?_; intro _))
    apply VE_retCT (k := 1); exact rfl; infer_instance; exact rfl; exact rfl; exact rfl; exact rfl; exact rfl
    exact fun w s => ⟨_, rfl, rfl, s.drop⟩

theorem refSizes (w : World) (c : Cfg) (kind : Int) :
    Calls Tryd.prog 76 #[c.val, i64 kind] w (Ret fun v w' => v = .tuple #[i64 (cfgSizes c kind).1, i64 (cfgSizes c kind).2.1, i64 (cfgSizes c kind).2.2.1, i64 (cfgSizes c kind).2.2.2] ∧ St w [] [] w') := by
  refine enter (args := [_, _]) Tryd.func76 rfl rfl rfl ?_
  repeat (first | refine st ?_ | (refine sa ?_; intro _))
  apply VL_loadW (k := 0); exact .none; exact rfl; exact rfl; exact rfl; exact rfl; exact rfl
  apply VL_call; exact .none; exact rfl; exact rfl
  · intro w3 s3; exact refCheck w3 c
  rintro w3 v w4 s3 ⟨rfl, t3⟩
  refine ⟨_, _, s3.comp t3, ?_⟩
  unfold cfgSizes
  by_cases hg : c.good
  · have hg' := hg
    unfold Cfg.good at hg'
    rw [if_pos hg, if_pos hg]
    by_cases hk : kind = 1
    · rw [if_pos hk]
      repeat (first | refine st ?_ | (refine sa ?_; intro _))
      refine VC_still mixed (by kernel_rfl) ?_
      repeat (first | refine st ?_ | (refine sa ?_; intro _))
      exact VE_ret4 rfl rfl rfl rfl rfl (fun w s => ⟨_, rfl, rfl, s.drop⟩)
    · rw [if_neg hk]
      by_cases hk2 : kind = 2
      · rw [if_pos hk2]
        repeat (first | refine st ?_ | (refine sa ?_; intro _))
        exact VE_ret4 rfl rfl rfl rfl rfl (fun w s => ⟨_, rfl, rfl, s.drop⟩)
      · rw [if_neg hk2]
        repeat (first | refine st ?_ | (refine sa ?_; intro _))
        exact VE_ret4 rfl rfl rfl rfl rfl (fun w s => ⟨_, rfl, rfl, s.drop⟩)
  · rw [if_neg hg, if_neg hg]
    repeat (first | refine st ?_ | (refine sa ?_; intro _))
    exact VE_ret4 rfl rfl rfl rfl rfl (fun w s => ⟨_, rfl, rfl, s.drop⟩)

theorem requestSize (w : World) (c : Cfg) (kind : Int) (hm : -9223372036854775808 ≤ c.message ∧ c.message ≤ 9223372036854775807) :
    Calls Tryd.prog 46 #[c.val, i64 kind] w (Ret fun v w' => v = .tuple #[i64 (cfgSizes c kind).1, i64 (cfgSizes c kind).2.2.2] ∧ St w [] [] w') := by
  refine enter (args := [_, _]) Tryd.func46 rfl rfl rfl ?_
  repeat (first | refine st ?_ | (refine sa ?_; intro _))
  apply VL_loadW (k := 0); exact .none; exact rfl; exact rfl; exact rfl; exact rfl; exact rfl
  repeat (first | refine st ?_ | (refine sa ?_; intro _))
  apply VL_call; exact .none; exact rfl; exact rfl
  · intro w3 s3; exact measure w3 c kind hm
  rintro w3 v w4 s3 ⟨rfl, t3⟩
  refine ⟨_, _, s3.comp t3, ?_⟩
  repeat (first | refine st ?_ | (refine sa ?_; intro _))
  apply VL_storeW (k := 1); exact .none; exact rfl; exact rfl; exact rfl; exact rfl; exact rfl; exact rfl; exact rfl; exact NF.zero _
  repeat (first | refine st ?_ | (refine sa ?_; intro _))
  exact VE_ret2 rfl rfl rfl (fun w s => ⟨_, rfl, rfl, s.drop⟩)
theorem refRequestSize (w : World) (c : Cfg) (kind : Int) :
    Calls Tryd.prog 47 #[c.val, i64 kind] w (Ret fun v w' => v = .tuple #[i64 (cfgSizes c kind).1, i64 (cfgSizes c kind).2.2.2] ∧ St w [] [] w') := by
  refine enter (args := [_, _]) Tryd.func47 rfl rfl rfl ?_
  repeat (first | refine st ?_ | (refine sa ?_; intro _))
  apply VL_loadW (k := 0); exact .none; exact rfl; exact rfl; exact rfl; exact rfl; exact rfl
  repeat (first | refine st ?_ | (refine sa ?_; intro _))
  apply VL_call; exact .none; exact rfl; exact rfl
  · intro w3 s3; exact refSizes w3 c kind
  rintro w3 v w4 s3 ⟨rfl, t3⟩
  refine ⟨_, _, s3.comp t3, ?_⟩
  repeat (first | refine st ?_ | (refine sa ?_; intro _))
  exact VE_ret2 rfl rfl rfl (fun w s => ⟨_, rfl, rfl, s.drop⟩)
theorem replySize (w : World) (c : Cfg) (kind : Int) (hm : -9223372036854775808 ≤ c.message ∧ c.message ≤ 9223372036854775807) :
    Calls Tryd.prog 48 #[c.val, i64 kind] w (Ret fun v w' => v = .tuple #[i64 (cfgSizes c kind).2.1, i64 (cfgSizes c kind).2.2.2] ∧ St w [] [] w') := by
  refine enter (args := [_, _]) Tryd.func48 rfl rfl rfl ?_
  repeat (first | refine st ?_ | (refine sa ?_; intro _))
  apply VL_loadW (k := 0); exact .none; exact rfl; exact rfl; exact rfl; exact rfl; exact rfl
  repeat (first | refine st ?_ | (refine sa ?_; intro _))
  apply VL_call; exact .none; exact rfl; exact rfl
  · intro w3 s3; exact measure w3 c kind hm
  rintro w3 v w4 s3 ⟨rfl, t3⟩
  refine ⟨_, _, s3.comp t3, ?_⟩
  repeat (first | refine st ?_ | (refine sa ?_; intro _))
  apply VL_storeW (k := 1); exact .none; exact rfl; exact rfl; exact rfl; exact rfl; exact rfl; exact rfl; exact rfl; exact NF.zero _
  repeat (first | refine st ?_ | (refine sa ?_; intro _))
  exact VE_ret2 rfl rfl rfl (fun w s => ⟨_, rfl, rfl, s.drop⟩)
theorem refReplySize (w : World) (c : Cfg) (kind : Int) :
    Calls Tryd.prog 49 #[c.val, i64 kind] w (Ret fun v w' => v = .tuple #[i64 (cfgSizes c kind).2.1, i64 (cfgSizes c kind).2.2.2] ∧ St w [] [] w') := by
  refine enter (args := [_, _]) Tryd.func49 rfl rfl rfl ?_
  repeat (first | refine st ?_ | (refine sa ?_; intro _))
  apply VL_loadW (k := 0); exact .none; exact rfl; exact rfl; exact rfl; exact rfl; exact rfl
  repeat (first | refine st ?_ | (refine sa ?_; intro _))
  apply VL_call; exact .none; exact rfl; exact rfl
  · intro w3 s3; exact refSizes w3 c kind
  rintro w3 v w4 s3 ⟨rfl, t3⟩
  refine ⟨_, _, s3.comp t3, ?_⟩
  repeat (first | refine st ?_ | (refine sa ?_; intro _))
  exact VE_ret2 rfl rfl rfl (fun w s => ⟨_, rfl, rfl, s.drop⟩)
end Go.Proofs.YtpboahlpgfglkaaDoor.X
