/-
  Contracts: fits; replies of a talk round laid; awake.
-/
import Derived.Test.YtpboahlpgfglkaaDoorF13
import Derived.Test.YtpboahlpgfglkaaDoorF0
namespace Go.Proofs.YtpboahlpgfglkaaDoor.X
open Go Go.RowKit
set_option linter.unusedVariables false
set_option linter.unusedSimpArgs false
set_option maxRecDepth 100000

def fitsE (c : Cfg) (len n : Int) : Int := if c.good then (if len = n then 0 else 4) else 200
theorem fits (w : World) (c : Cfg) (A : Option Addr) (len ca : Nat) (n : Int) (hm : -9223372036854775808 ≤ c.message ∧ c.message ≤ 9223372036854775807) :
    Calls Tryd.prog 63 #[c.val, .slice A len ca, i64 n] w (Ret fun v w' => v = i64 (fitsE c len n) ∧ St w [] [] w') := by
  refine enter (args := [_, _, _]) Tryd.func63 rfl rfl rfl ?_
  repeat (first | refine st ?_ | (refine sa ?_; intro _))
  apply VL_loadW (k := 0); exact .none; exact rfl; exact rfl; exact rfl; exact rfl; exact rfl
  apply VL_call; exact .none; exact rfl; exact rfl
  · intro w3 s3; exact check w3 c hm
  rintro w3 v w4 s3 ⟨rfl, t3⟩
  refine ⟨_, _, s3.comp t3, ?_⟩
  unfold fitsE
  by_cases hg : c.good
  · rw [if_pos hg, if_pos hg]
    by_cases h : (len : Int) = n
    · rw [if_pos h]
      repeat (first | refine st ?_ | (refine sa ?_; intro _))
      exact VE_ret1 rfl rfl (fun w s => ⟨_, rfl, rfl, s.drop⟩)
    · rw [if_neg h]
      repeat (first | refine st ?_ | (refine sa ?_; intro _))
      exact VE_ret1 rfl rfl (fun w s => ⟨_, rfl, rfl, s.drop⟩)
  · rw [if_neg hg, if_neg hg]
    repeat (first | refine st ?_ | (refine sa ?_; intro _))
    exact VE_ret1 rfl rfl (fun w s => ⟨_, rfl, rfl, s.drop⟩)

def talkRep (c : Cfg) (there : Bool) (l : List UInt8) : List UInt8 × Int :=
  if c.good then (if (l.length : Int) = c.message then (if there then (1 :: l, 0) else (List.replicate (1 + c.message.toNat) 0, 0)) else ([], 4)) else ([], 200)

theorem talkReply (w : World) (c : Cfg) (there : Bool) (A : Option Addr) (ca : Nat) (l : List UInt8) (hA : Rd w A (l.map u8)) (hm : -9223372036854775808 ≤ c.message ∧ c.message ≤ 9223372036854775807) :
    Calls Tryd.prog 19 #[c.val, .bool there, .slice A l.length ca] w (Ret (Ans (talkRep c there l).1 (talkRep c there l).2 w)) := by
  refine enter (args := [_, _, _]) Tryd.func19 rfl rfl rfl ?_
  repeat (first | refine st ?_ | (refine sa ?_; intro _))
  apply VL_loadW (k := 0); exact .none; exact rfl; exact rfl; exact rfl; exact rfl; exact rfl
  repeat (first | refine st ?_ | (refine sa ?_; intro _))
  apply VL_call; exact .none; exact rfl; exact rfl
  · intro w3 s3; exact fits w3 c A l.length ca c.message hm
  rintro w3 v w4 s3 ⟨rfl, t3⟩
  refine ⟨_, _, s3.comp t3, ?_⟩
  unfold talkRep fitsE
  by_cases hg : c.good
  · rw [if_pos hg, if_pos hg]
    have hg' := hg
    unfold Cfg.good at hg'
    by_cases h : (l.length : Int) = c.message
    · rw [if_pos h, if_pos h]
      obtain ⟨ba, me, bu, te, wi, wo⟩ := c
      dsimp only at h hg' ⊢
      obtain ⟨m, hm'⟩ : ∃ m : Nat, me = (m : Int) := ⟨me.toNat, by omega⟩
      subst hm'
      cases there
      · repeat (first | refine st ?_ | (refine sa ?_; intro _))
        refine VL_makeSlice .none rfl rfl rfl (l' := 1 + m) (c' := 1 + m) (by omega) (by omega) (by omega) (by omega) (by omega) rfl (fun e0 A0 h0 => ?_)
        repeat (first | refine st ?_ | (refine sa ?_; intro _))
        refine VE_ret2 rfl rfl rfl (fun w s => ⟨_, rfl, e0, A0, 1 + m, by simp, ?_, s.perm (by simp)⟩)
        simpa using h0
      · repeat (first | refine st ?_ | (refine sa ?_; intro _))
        apply VL_buildSlice1; exact .none; exact rfl; exact rfl; exact rfl; exact rfl; exact rfl; exact rfl; exact rfl
        intro bs
        have hp : pcat [.b 1, .l ⟨A, ca, l⟩] = 1 :: l := by simp [pcat, Part.bytes]
        apply VL_call; exact .none; exact rfl; exact rfl
        · intro w5 s5
          exact laid_good w5 (some ⟨bs, 0, none⟩) 2 [.b 1, .l ⟨A, ca, l⟩] (s5.rdH (k := 1) rfl)
            (fun p hp => by simp at hp; rcases hp with rfl | rfl; trivial; exact s5.rd hA) (fun p hp => by simp at hp; rcases hp with rfl | rfl <;> trivial) (by simp) (by rw [hp]; simp; omega)
        rintro w5 v w6 s5 ⟨e2, A2, c2, rfl, ho, t5⟩
        refine ⟨_, _, s5.comp0 t5, ?_⟩
        rw [hp] at ho ⊢
        repeat (first | refine st ?_ | (refine sa ?_; intro _))
        exact VE_ret2 rfl rfl rfl (fun w s => ⟨_, rfl, e2, A2, c2, rfl, ho, s.perm (by simp)⟩)
    · rw [if_neg h, if_neg h]
      repeat (first | refine st ?_ | (refine sa ?_; intro _))
      exact VE_ret2 rfl rfl rfl (fun w s => ⟨_, rfl, Ans.none s⟩)
  · rw [if_neg hg, if_neg hg]
    repeat (first | refine st ?_ | (refine sa ?_; intro _))
    exact VE_ret2 rfl rfl rfl (fun w s => ⟨_, rfl, Ans.none s⟩)

def cfgZ : Cfg := ⟨0, 0, 0, 0, 0, 0⟩
def smallCfg : Cfg := ⟨4, 32, 3, 114, 2, 1⟩
theorem small (w : World) : Calls Tryd.prog 53 #[] w (Ret fun v w' => v = smallCfg.val ∧ St w [] [] w') := by
  refine enter (args := []) Tryd.func53 rfl rfl rfl ?_
  repeat (first | refine st ?_ | (refine sa ?_; intro _))
  refine VL_build (v := smallCfg.val) .none rfl (fun w => by kernel_rfl) rfl ?_
  apply VL_storeW (k := 0); exact .none; exact rfl; exact rfl; exact rfl; exact rfl; exact rfl; exact rfl; exact rfl; exact NF.zero _
  repeat (first | refine st ?_ | (refine sa ?_; intro _))
  apply VE_retC (k := 0); exact rfl; infer_instance; exact rfl; exact rfl; exact rfl; exact rfl
  exact fun w s => ⟨_, rfl, rfl, s.drop⟩
theorem small1 : cfgSizes smallCfg 1 = (48, 33, 58, 0) := by kernel_rfl
theorem small2 : cfgSizes smallCfg 2 = (92, 16, 114, 0) := by kernel_rfl
theorem small3 : cfgPages smallCfg 2 4 = (6, 0) := by kernel_rfl
theorem small4 : smallCfg.good := by unfold Cfg.good smallCfg; decide
theorem small5 : ¬ cfgZ.good := by unfold Cfg.good cfgZ; decide
end Go.Proofs.YtpboahlpgfglkaaDoor.X
