/-
  Contracts: requests and replies laid and read.
-/
import Derived.Test.YtpboahlpgfglkaaDoorX10
import Derived.Test.YtpboahlpgfglkaaDoorF15
namespace Go.Proofs.YtpboahlpgfglkaaDoor.X
open Go Go.RowKit
set_option linter.unusedVariables false
set_option linter.unusedSimpArgs false
set_option maxRecDepth 100000

abbrev dropV (d : List UInt8) : Value := .agg (d.map u8).toArray
def talkReq (c : Cfg) (d l : List UInt8) : List UInt8 × Int := if c.good then (if (l.length : Int) = c.message then (d ++ l, 0) else ([], 4)) else ([], 200)
theorem talkRequest (w : World) (c : Cfg) (d : List UInt8) (hd : d.length = 16) (A : Option Addr) (ca : Nat) (l : List UInt8) (hA : Rd w A (l.map u8)) (hm : -9223372036854775808 ≤ c.message ∧ c.message ≤ 9223372036854775807) :
    Calls Tryd.prog 16 #[c.val, dropV d, .slice A l.length ca] w (Ret (Ans (talkReq c d l).1 (talkReq c d l).2 w)) := by
  refine enter (args := [_, _, _]) Tryd.func16 rfl rfl rfl ?_
  repeat (first | refine st ?_ | (refine sa ?_; intro _))
  apply VL_loadW (k := 0); exact .none; exact rfl; exact rfl; exact rfl; exact rfl; exact rfl
  repeat (first | refine st ?_ | (refine sa ?_; intro _))
  apply VL_call; exact .none; exact rfl; exact rfl
  · intro w1 s; exact fits w1 c A l.length ca c.message hm
  rintro w1 v w2 s ⟨rfl, t⟩
  refine ⟨_, _, s.comp t, ?_⟩
  unfold talkReq fitsE
  by_cases hg : c.good
  · rw [if_pos hg, if_pos hg]
    have hg' := hg
    unfold Cfg.good at hg'
    by_cases h : (l.length : Int) = c.message
    · rw [if_pos h, if_pos h]
      repeat (first | refine st ?_ | (refine sa ?_; intro _))
      apply VL_loadW (k := 1); exact .none; exact rfl; exact rfl; exact rfl; (simp [hd]); exact rfl
      repeat (first | refine st ?_ | (refine sa ?_; intro _))
      apply VL_buildSlice1; exact .none; exact rfl; exact rfl; exact rfl; exact rfl; exact rfl; exact rfl; exact rfl
      intro bs
      have hp : pcat [.d d, .l ⟨A, ca, l⟩] = d ++ l := by simp [pcat, Part.bytes]
      apply VL_call; exact .none; exact rfl; exact rfl
      · intro w1 s; exact laid_good w1 (some ⟨bs, 0, none⟩) 2 [.d d, .l ⟨A, ca, l⟩] (s.rdH (k := 2) rfl) (fun p hp => by simp at hp; rcases hp with rfl | rfl; exact hd; exact s.rd hA) (fun p hp => by simp at hp; rcases hp with rfl | rfl <;> trivial) (by simp) (by rw [hp]; simp; omega)
      rintro w1 v w2 s ⟨e2, A2, c2, rfl, ho, t⟩
      refine ⟨_, _, s.comp0 t, ?_⟩
      rw [hp] at ho ⊢
      repeat (first | refine st ?_ | (refine sa ?_; intro _))
      exact VE_ret2 rfl rfl rfl (fun w s => ⟨_, rfl, e2, A2, c2, rfl, ho, s.perm (by simp)⟩)
    · rw [if_neg h, if_neg h]
      repeat (first | refine st ?_ | (refine sa ?_; intro _))
      exact VE_ret2 rfl rfl rfl (fun w s => ⟨_, rfl, Ans.none s⟩)
  · rw [if_neg hg, if_neg hg]
    repeat (first | refine st ?_ | (refine sa ?_; intro _))
    exact VE_ret2 rfl rfl rfl (fun w s => ⟨_, rfl, Ans.none s⟩)

/-- an answer: a dead drop, bytes, an error's number -/
def AnsD (d ans : List UInt8) (err : Int) (w : World) (v : Value) (w' : World) : Prop :=
  ∃ e A' c', v = .tuple #[dropV d, .slice A' ans.length c', i64 err] ∧ OwnSl e A' c' 5 (ans.map u8) ∧ St w [] [e] w'
theorem AnsD.none {d : List UInt8} {err : Int} {w w' : World} {H : List Ent} (s : St w [] H w') : AnsD d [] err w (.tuple #[dropV d, .slice none 0 0, i64 err]) w' := ⟨_, _, _, rfl, OwnSl.nil _, s.drop.none⟩
def drop0 : List UInt8 := List.replicate 16 0
def talkParsed (c : Cfg) (l : List UInt8) : List UInt8 × List UInt8 × Int := if c.good then (if (l.length : Int) = 16 + c.message then (l.take 16, l.drop 16, 0) else (drop0, [], 4)) else (drop0, [], 200)
theorem talkParsed_len (c : Cfg) (l : List UInt8) : (talkParsed c l).1.length = 16 := by
  unfold talkParsed
  by_cases hg : c.good
  · rw [if_pos hg]
    unfold Cfg.good at hg
    split
    · simp; omega
    · rfl
  · rw [if_neg hg]; rfl
theorem parseTalk (w : World) (c : Cfg) (A : Option Addr) (ca : Nat) (l : List UInt8) (hA : Rd w A (l.map u8)) (hca : l.length ≤ ca) (hm : -9223372036854775808 ≤ c.message ∧ c.message ≤ 9223372036854775807) :
    Calls Tryd.prog 21 #[c.val, .slice A l.length ca] w (Ret (AnsD (talkParsed c l).1 (talkParsed c l).2.1 (talkParsed c l).2.2 w)) := by
  refine enter (args := [_, _]) Tryd.func21 rfl rfl rfl ?_
  repeat (first | refine st ?_ | (refine sa ?_; intro _))
  apply VL_loadW (k := 0); exact .none; exact rfl; exact rfl; exact rfl; exact rfl; exact rfl
  by_cases hg : c.good
  · have hg' := hg
    unfold Cfg.good at hg'
    repeat (first | refine st ?_ | (refine sa ?_; intro _))
    apply VL_call; exact .none; exact rfl; exact rfl
    · intro w1 s; exact fits w1 c A l.length ca (16 + c.message) hm
    rintro w1 v w2 s ⟨rfl, t⟩
    refine ⟨_, _, s.comp t, ?_⟩
    unfold talkParsed fitsE
    rw [if_pos hg, if_pos hg]
    by_cases h : (l.length : Int) = 16 + c.message
    · rw [if_pos h, if_pos h]
      dsimp only
      repeat (first | refine st ?_ | (refine sa ?_; intro _))
      refine VC_draw (S := fun w' => St w [] [] w') mixed (fun _ s => s.drop) ?_
      have hsplit : Rd w A ((l.take 16).map u8 ++ (l.drop 16).map u8) := by rw [← List.map_append, List.take_append_drop]; exact hA
      have hl16 : ((l.take 16).map u8).length = 16 := by simp; omega
      refine tk 0 ?_
      refine tk (v := .slice A 16 ca) 1 ?_ (hS := fun w1 h1 => ⟨_, h1, Y_slice_hi rfl rfl rfl (by omega) (hA.spot (by simp; omega))⟩)
      refine tk 2 ?_ (hS := fun w1 h1 => ⟨_, h1, Y_sliceArr (N := 16) rfl (by omega)⟩)
      refine tk (v := dropV (l.take 16)) 3 ?_ (hS := fun w1 h1 => ⟨_, h1, Y_loadRd rfl rfl hl16 rfl (fun w2 s2 => s2.rd hsplit.append)⟩)
      refine tk 4 ?_
      refine tk 5 ?_ (hS := fun w1 h1 => ⟨_, h1, Y_slice_lo' (i' := 16) rfl rfl rfl (by omega)⟩)
      apply VA_step 6; exact rfl; kernel_rfl
      apply VL_call; exact .none; exact rfl; exact rfl
      · intro w1 s
        have q := twin w1 _ (ca - 16) (l.drop 16) (s.rd (hsplit.split (c := ca) hl16 (by simp; omega))) (by simp; omega)
        rw [List.length_drop] at q
        exact q
      rintro w1 v w2 s ⟨e2, A2, c2, rfl, ho, t⟩
      refine ⟨_, _, s.comp0 t, VL_nil (VA_back (fun w s => s.drop) ?_)⟩
      apply VA_step 7; exact rfl; kernel_rfl
      apply VL_storeW (k := 1); exact .none; exact rfl; exact rfl; exact rfl; exact hl16; exact all_u8 _; exact rfl; exact rfl; exact NF.zero _
      refine VL_nil (VA_back (fun w s => s.drop) ?_)
      refine tk 8 ?_
      refine tk 9 ?_
      refine VA_done (by kernel_rfl) ?_
      repeat (first | refine st ?_ | (refine sa ?_; intro _))
      apply VE_retCTT (k := 1); exact rfl; infer_instance; exact rfl; exact rfl; exact rfl; exact rfl; exact rfl; exact hl16
      exact fun w s => ⟨_, rfl, e2, A2, c2, by simp, ho, s.pick [2] (by decide)⟩
    · rw [if_neg h, if_neg h]
      repeat (first | refine st ?_ | (refine sa ?_; intro _))
      refine VL_build (v := dropV drop0) .none rfl (fun w => by kernel_rfl) rfl ?_
      repeat (first | refine st ?_ | (refine sa ?_; intro _))
      apply VL_storeW (k := 1); exact .none; exact rfl; exact rfl; exact rfl; exact rfl; exact rfl; exact rfl; exact rfl; exact NF.zero _
      repeat (first | refine st ?_ | (refine sa ?_; intro _))
      apply VE_retCTT (k := 1); exact rfl; infer_instance; exact rfl; exact rfl; exact rfl; exact rfl; exact rfl; exact rfl
      exact fun w s => ⟨_, rfl, AnsD.none s⟩
  · repeat (first | refine st ?_ | (refine sa ?_; intro _))
    apply VL_bin; exact .none; exact rfl; exact rfl; exact b_addw; exact rfl
    apply VL_call; exact .none; exact rfl; exact rfl
    · intro w1 s; exact fits w1 c A l.length ca _ hm
    rintro w1 v w2 s ⟨rfl, t⟩
    refine ⟨_, _, s.comp t, ?_⟩
    unfold talkParsed fitsE
    rw [if_neg hg, if_neg hg]
    repeat (first | refine st ?_ | (refine sa ?_; intro _))
    refine VL_build (v := dropV drop0) .none rfl (fun w => by kernel_rfl) rfl ?_
    repeat (first | refine st ?_ | (refine sa ?_; intro _))
    apply VL_storeW (k := 1); exact .none; exact rfl; exact rfl; exact rfl; exact rfl; exact rfl; exact rfl; exact rfl; exact NF.zero _
    repeat (first | refine st ?_ | (refine sa ?_; intro _))
    apply VE_retCTT (k := 1); exact rfl; infer_instance; exact rfl; exact rfl; exact rfl; exact rfl; exact rfl; exact rfl
    exact fun w s => ⟨_, rfl, AnsD.none s⟩
end Go.Proofs.YtpboahlpgfglkaaDoor.X
