/-
  Contract: the statement CodecSizes.
-/
import Derived.Test.YtpboahlpgfglkaaDoorF13
import Derived.Test.YtpboahlpgfglkaaDoorF0
namespace Go.Proofs.YtpboahlpgfglkaaDoor.X
open Go Go.RowKit
set_option linter.unusedVariables false
set_option linter.unusedSimpArgs false
set_option maxRecDepth 100000

set_option maxHeartbeats 4000000 in
theorem codecSizes (w : World) (c : Cfg) (kind n : Int) (hm : -9223372036854775808 ≤ c.message ∧ c.message ≤ 9223372036854775807) :
    Calls Tryd.prog 7 #[c.val, i64 kind, i64 n] w (Ret fun v w' => v = .bool true ∧ St w [] [] w') := by
  refine enter (args := [_, _, _]) Tryd.func7 rfl rfl rfl ?_
  repeat (first | refine st ?_ | (refine sa ?_; intro _))
  rename_i cb
  have hlen : (putCfg c).1.length ≤ 24 := by
    unfold putCfg
    split
    · rw [Cfg.bytes_length]; exact Nat.le_refl _
    · simp
  obtain ⟨l, hl⟩ : ∃ l, l = (putCfg c).1 := ⟨_, rfl⟩
  obtain ⟨er, her⟩ : ∃ e, e = (putCfg c).2 := ⟨_, rfl⟩
  rw [← hl] at hlen
  apply VL_loadW (k := 0); exact .none; exact rfl; exact rfl; exact rfl; exact rfl; exact rfl
  apply VL_call; exact .none; exact rfl; exact rfl
  · intro w3 s3; exact putConfig w3 c hm
  rintro w3 v w4 s3 ⟨e1, A1, c1, rfl, h1, t3⟩
  rw [← hl] at h1 ⊢
  rw [← her]
  refine ⟨_, _, s3.comp0 t3, ?_⟩
  repeat (first | refine st ?_ | (refine sa ?_; intro _))
  apply VL_loadW (k := 0); exact .none; exact rfl; exact rfl; exact rfl; exact rfl; exact rfl
  apply VL_call; exact .none; exact rfl; exact rfl
  · intro w3 s3; exact refPutConfig w3 c hm
  rintro w3 v w4 s3 ⟨e2, A2, c2, rfl, h2, t3⟩
  rw [← hl] at h2 ⊢
  rw [← her]
  refine ⟨_, _, s3.comp0 t3, ?_⟩
  repeat (first | refine st ?_ | (refine sa ?_; intro _))
  refine VC_draw (S := fun w' => St w [] [Blk cb [i64 c.batch, i64 c.message, i64 c.buckets, i64 c.text, i64 c.window, i64 c.workers] 29, e1, e2] w') mixed (fun _ h => h) ?_
  refine tk 0 ?_
  refine tk 2 ?_
  apply VA_step 1; exact rfl; kernel_rfl
  apply VL_call; exact .none; exact rfl; exact rfl
  · intro w5 s5; exact check w5 c hm
  rintro w5 v w6 s5 ⟨rfl, t5⟩
  refine ⟨_, _, s5.comp t5, VL_nil (VA_back (fun w s => s) ?_)⟩
  apply VA_step 3; exact rfl; kernel_rfl
  apply VL_call; exact .none; exact rfl; exact rfl
  · intro w5 s5; exact refCheck w5 c
  rintro w5 v w6 s5 ⟨rfl, t5⟩
  refine ⟨_, _, s5.comp t5, VL_nil (VA_back (fun w s => s) ?_)⟩
  refine tk 4 ?_
  simp only [ne_eq, not_true_eq_false, decide_false]
  refine tk 5 ?_
  refine tk 6 ?_
  refine tk 7 ?_
  refine tk 8 ?_
  simp only [ne_eq, not_true_eq_false, decide_false]
  refine tk 9 ?_
  refine tk 10 ?_
  refine tk 11 ?_
  refine tk 12 ?_
  apply VA_step 13; exact rfl; kernel_rfl
  apply VL_call; exact .yes rfl rfl; exact rfl; exact rfl
  · intro w5 s5; exact eqBytes w5 A1 A2 c1 c2 l l (s5.rdO (k := 1) rfl h1) (s5.rdO (k := 2) rfl h2) (by omega)
  rintro w5 v w6 s5 ⟨rfl, t5⟩
  rw [decide_eq_true rfl]
  refine ⟨_, _, s5.comp t5, VL_nil (VA_back (fun w s => s) ?_)⟩
  refine tk 14 ?_
  refine tk 15 ?_
  refine VA_done (by kernel_rfl) ?_
  repeat (first | refine st ?_ | (refine sa ?_; intro _))
  apply VL_loadW (k := 0); exact .none; exact rfl; exact rfl; exact rfl; exact rfl; exact rfl
  repeat (first | refine st ?_ | (refine sa ?_; intro _))
  apply VL_call; exact .none; exact rfl; exact rfl
  · intro w5 s5; exact requestSize w5 c kind hm
  rintro w5 v w6 s5 ⟨rfl, t5⟩
  refine ⟨_, _, s5.comp t5, ?_⟩
  repeat (first | refine st ?_ | (refine sa ?_; intro _))
  apply VL_loadW (k := 0); exact .none; exact rfl; exact rfl; exact rfl; exact rfl; exact rfl
  repeat (first | refine st ?_ | (refine sa ?_; intro _))
  apply VL_call; exact .none; exact rfl; exact rfl
  · intro w5 s5; exact refRequestSize w5 c kind
  rintro w5 v w6 s5 ⟨rfl, t5⟩
  refine ⟨_, _, s5.comp t5, ?_⟩
  repeat (first | refine st ?_ | (refine sa ?_; intro _))
  apply VL_loadW (k := 0); exact .none; exact rfl; exact rfl; exact rfl; exact rfl; exact rfl
  repeat (first | refine st ?_ | (refine sa ?_; intro _))
  apply VL_call; exact .none; exact rfl; exact rfl
  · intro w5 s5; exact replySize w5 c kind hm
  rintro w5 v w6 s5 ⟨rfl, t5⟩
  refine ⟨_, _, s5.comp t5, ?_⟩
  repeat (first | refine st ?_ | (refine sa ?_; intro _))
  apply VL_loadW (k := 0); exact .none; exact rfl; exact rfl; exact rfl; exact rfl; exact rfl
  repeat (first | refine st ?_ | (refine sa ?_; intro _))
  apply VL_call; exact .none; exact rfl; exact rfl
  · intro w5 s5; exact refReplySize w5 c kind
  rintro w5 v w6 s5 ⟨rfl, t5⟩
  refine ⟨_, _, s5.comp t5, ?_⟩
  repeat (first | refine st ?_ | (refine sa ?_; intro _))
  apply VL_loadW (k := 0); exact .none; exact rfl; exact rfl; exact rfl; exact rfl; exact rfl
  repeat (first | refine st ?_ | (refine sa ?_; intro _))
  apply VL_call; exact .none; exact rfl; exact rfl
  · intro w5 s5; exact pages w5 c kind n hm
  rintro w5 v w6 s5 ⟨rfl, t5⟩
  refine ⟨_, _, s5.comp t5, ?_⟩
  repeat (first | refine st ?_ | (refine sa ?_; intro _))
  apply VL_loadW (k := 0); exact .none; exact rfl; exact rfl; exact rfl; exact rfl; exact rfl
  repeat (first | refine st ?_ | (refine sa ?_; intro _))
  apply VL_call; exact .none; exact rfl; exact rfl
  · intro w5 s5; exact refPages w5 c kind n
  rintro w5 v w6 s5 ⟨rfl, t5⟩
  refine ⟨_, _, s5.comp t5, ?_⟩
  repeat (first | refine st ?_ | (refine sa ?_; intro _))
  exact VE_ret1 rfl rfl (fun w s => ⟨_, rfl, by simp, s.drop⟩)
end Go.Proofs.YtpboahlpgfglkaaDoor.X
