/-
  Contracts: the acknowledgement; the statement CodecNames.
-/
import Derived.Test.YtpboahlpgfglkaaDoorF16
namespace Go.Proofs.YtpboahlpgfglkaaDoor.X
open Go Go.RowKit
set_option linter.unusedVariables false
set_option linter.unusedSimpArgs false
set_option maxRecDepth 100000

def ackB : List UInt8 := [116, 114, 121, 115, 116, 58, 32, 114, 117, 110, 103, 44, 32, 111, 107, 46]
theorem ack (w : World) : Calls Tryd.prog 40 #[] w (Ret fun v w' => ∃ b, v = .slice (some ⟨b, 0, none⟩) 16 16 ∧ St w [] [Blk b (ackB.map u8) 5 (16, 17)] w') := by
  refine enter (args := []) Tryd.func40 rfl rfl rfl ?_
  repeat (first | refine st ?_ | (refine sa ?_; intro _))
  apply VL_buildSlice1; exact .none; exact rfl; exact rfl; exact rfl; exact rfl; exact rfl; exact rfl; exact rfl
  intro b
  apply VL_convMark (k := 0); exact .none; exact rfl; exact rfl; exact rfl
  repeat (first | refine st ?_ | (refine sa ?_; intro _))
  exact VE_ret1 rfl rfl (fun w s => ⟨_, rfl, b, rfl, s⟩)

def namesCfg : Cfg := ⟨4, 32, 3, 113, 2, 1⟩
theorem namesBad : ¬ namesCfg.good := by unfold Cfg.good namesCfg; decide
theorem namesM : -9223372036854775808 ≤ namesCfg.message ∧ namesCfg.message ≤ 9223372036854775807 := by unfold namesCfg; decide
set_option maxHeartbeats 4000000 in
theorem codecNames (w : World) : Calls Tryd.prog 9 #[] w (Ret fun v w' => v = .bool true ∧ St w [] [] w') := by
  refine enter (args := []) Tryd.func9 rfl rfl rfl ?_
  repeat (first | refine st ?_ | (refine sa ?_; intro _))
  apply VL_call; exact .none; exact rfl; exact rfl
  · intro w1 s; exact small w1
  rintro w1 v w2 s ⟨rfl, t⟩
  refine ⟨_, _, s.comp t, ?_⟩
  repeat (first | refine st ?_ | (refine sa ?_; intro _))
  apply VL_storeW (k := 0); exact .none; exact rfl; exact rfl; exact rfl; exact rfl; exact rfl; exact rfl; exact rfl; exact NF.zero _
  repeat (first | refine st ?_ | (refine sa ?_; intro _))
  apply VL_storeH1 (k := 0); exact .none; exact rfl; exact rfl; exact rfl; exact rfl; (simp); exact NF.zero _
  repeat (first | refine st ?_ | (refine sa ?_; intro _))
  apply VL_call; exact .yes rfl rfl; exact rfl; exact rfl
  · intro w1 s; exact awake w1
  rintro w1 v w2 s ⟨rfl, t⟩
  refine ⟨_, _, s.comp t, ?_⟩
  repeat (first | refine st ?_ | (refine sa ?_; intro _))
  apply VL_loadW (k := 0); exact .yes rfl rfl; exact rfl; exact rfl; exact rfl; exact rfl; exact rfl
  apply VL_call; exact .yes rfl rfl; exact rfl; exact rfl
  · intro w1 s; exact check_bad w1 namesCfg namesBad namesM
  rintro w1 v w2 s ⟨rfl, t⟩
  refine ⟨_, _, s.comp t, ?_⟩
  repeat (first | refine st ?_ | (refine sa ?_; intro _))
  apply VL_call; exact .yes rfl rfl; exact rfl; exact rfl
  · intro w1 s; exact ack w1
  rintro w1 v w2 s ⟨b, rfl, t⟩
  refine ⟨_, _, s.comp0 t, ?_⟩
  apply VL_convStr (l := ackB); exact .yes rfl rfl; exact rfl; exact rfl
  · intro w s j v hj
    exact s.cell (k := 1) rfl (by simpa using hj)
  exact rfl
  apply VL_eqS; exact .yes rfl rfl; exact rfl; exact rfl; exact rfl
  repeat (first | refine st ?_ | (refine sa ?_; intro _))
  exact VE_ret1 rfl rfl (fun w s => ⟨_, rfl, rfl, s.drop⟩)
end Go.Proofs.YtpboahlpgfglkaaDoor.X
