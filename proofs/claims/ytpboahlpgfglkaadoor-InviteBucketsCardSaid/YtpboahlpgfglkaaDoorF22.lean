/-
  Contracts: requests of a dial round laid and read; bytes brought to a length; frames laid.
-/
import Derived.Test.YtpboahlpgfglkaaDoorF21
namespace Go.Proofs.YtpboahlpgfglkaaDoor.X
open Go Go.RowKit
set_option linter.unusedVariables false
set_option linter.unusedSimpArgs false
set_option maxRecDepth 100000

def dialReq (c : Cfg) (n : Int) (l : List UInt8) : List UInt8 × Int :=
  if c.good then (if 0 ≤ n ∧ n < c.buckets then (if l.length = 88 then (le n.toNat 4 ++ l, 0) else ([], 4)) else ([], 201)) else ([], 200)
theorem dialRequest (w : World) (c : Cfg) (n : Int) (A : Option Addr) (ca : Nat) (l : List UInt8) (hA : Rd w A (l.map u8)) (hE : l.length = 88 ∨ ErrCell w) (hm : -9223372036854775808 ≤ c.message ∧ c.message ≤ 9223372036854775807) :
    Calls Tryd.prog 36 #[c.val, i64 n, .slice A l.length ca] w (Ret (Ans (dialReq c n l).1 (dialReq c n l).2 w)) := by
  refine enter (args := [_, _, _]) Tryd.func36 rfl rfl rfl ?_
  repeat (first | refine st ?_ | (refine sa ?_; intro _))
  apply VL_loadW (k := 0); exact .none; exact rfl; exact rfl; exact rfl; exact rfl; exact rfl
  apply VL_call; exact .none; exact rfl; exact rfl
  · intro w1 s; exact check w1 c hm
  rintro w1 v w2 s ⟨rfl, t⟩
  refine ⟨_, _, s.comp t, ?_⟩
  unfold dialReq
  by_cases hg : c.good
  · rw [if_pos hg, if_pos hg]
    have hg' := hg
    unfold Cfg.good at hg'
    by_cases h0 : 0 ≤ n
    · by_cases h1 : n < c.buckets
      · rw [if_pos ⟨h0, h1⟩]
        obtain ⟨m, rfl⟩ := Int.eq_ofNat_of_zero_le h0
        repeat (first | refine st ?_ | (refine sa ?_; intro _))
        apply VL_buildSlice1; exact .none; exact rfl; exact rfl; exact rfl; exact rfl; exact rfl; exact rfl; exact rfl
        intro b1
        repeat (first | refine st ?_ | (refine sa ?_; intro _))
        apply VL_buildSlice1; exact .none; exact rfl; exact rfl; exact rfl; exact rfl; exact rfl; exact rfl; exact rfl
        intro b2
        have hp : pcat [.i m, .rows (some ⟨b1, 0, none⟩) 1 [⟨A, ca, l⟩]] = le m 4 ++ l := by simp [pcat, Part.bytes, cat]
        have hok : ∀ w1 x y T, St w [] [x, Blk b1 [Row.val ⟨A, ca, l⟩] T, y] w1 → ∀ p ∈ [Part.i m, .rows (some ⟨b1, 0, none⟩) 1 [⟨A, ca, l⟩]], p.ok w1 := by
          intro w1 x y T s p hp
          simp at hp
          rcases hp with rfl | rfl
          · show m < 4294967296; omega
          · exact ⟨⟨s.rdH (k := 1) rfl, fun r hr => by simp at hr; subst hr; exact s.rd hA⟩, by simp⟩
        by_cases h88 : l.length = 88
        · rw [if_pos h88]
          apply VL_call; exact .none; exact rfl; exact rfl
          · intro w1 s; exact laid_good w1 (some ⟨b2, 0, none⟩) 2 [.i m, .rows (some ⟨b1, 0, none⟩) 1 [⟨A, ca, l⟩]] (s.rdH (k := 2) rfl) (hok w1 _ _ _ s) (fun p hp => by simp at hp; rcases hp with rfl | rfl; trivial; intro r hr; simp at hr; subst hr; exact h88) (by simp) (by rw [hp]; simp [le_length]; omega)
          rintro w1 v w2 s ⟨e2, A2, c2, rfl, ho, t⟩
          refine ⟨_, _, s.comp0 t, ?_⟩
          rw [hp] at ho ⊢
          repeat (first | refine st ?_ | (refine sa ?_; intro _))
          exact VE_ret2 rfl rfl rfl (fun w s => ⟨_, rfl, e2, A2, c2, by simp, ho, s.pick [3] (by decide)⟩)
        · rw [if_neg h88]
          have hE := hE.resolve_left h88
          apply VL_call; exact .none; exact rfl; exact rfl
          · intro w1 s; exact laid_bad w1 (some ⟨b2, 0, none⟩) 2 [.i m, .rows (some ⟨b1, 0, none⟩) 1 [⟨A, ca, l⟩]] (s.rdH (k := 2) rfl) (hok w1 _ _ _ s) (fun hall => h88 (hall (.rows (some ⟨b1, 0, none⟩) 1 [⟨A, ca, l⟩]) (by simp) ⟨A, ca, l⟩ (by simp))) (s.err hE) (by simp) (by simp [psize, Part.size, Part.bytes, le_length])
          rintro w1 v w2 s ⟨e2, A2, c2, rfl, ho, t⟩
          refine ⟨_, _, s.comp0 t, ?_⟩
          repeat (first | refine st ?_ | (refine sa ?_; intro _))
          exact VE_ret2 rfl rfl rfl (fun w s => ⟨_, rfl, e2, A2, c2, rfl, ho, s.pick [3] (by decide)⟩)
      · rw [if_neg (by omega)]
        repeat (first | refine st ?_ | (refine sa ?_; intro _))
        exact VE_ret2 rfl rfl rfl (fun w s => ⟨_, rfl, Ans.none s⟩)
    · rw [if_neg (by omega)]
      repeat (first | refine st ?_ | (refine sa ?_; intro _))
      exact VE_ret2 rfl rfl rfl (fun w s => ⟨_, rfl, Ans.none s⟩)
  · rw [if_neg hg, if_neg hg]
    repeat (first | refine st ?_ | (refine sa ?_; intro _))
    exact VE_ret2 rfl rfl rfl (fun w s => ⟨_, rfl, Ans.none s⟩)

/-- an answer: a number, bytes, an error's number -/
def AnsI (n : Int) (ans : List UInt8) (err : Int) (w : World) (v : Value) (w' : World) : Prop :=
  ∃ e A' c', v = .tuple #[i64 n, .slice A' ans.length c', i64 err] ∧ OwnSl e A' c' 5 (ans.map u8) ∧ St w [] [e] w'
theorem AnsI.none {n err : Int} {w w' : World} {H : List Ent} (s : St w [] H w') : AnsI n [] err w (.tuple #[i64 n, .slice none 0 0, i64 err]) w' := ⟨_, _, _, rfl, OwnSl.nil _, s.drop.none⟩
def dialParsed (c : Cfg) (l : List UInt8) : Int × List UInt8 × Int :=
  if c.good then (if (l.length : Int) = 92 then (if (leN (l.take 4) : Int) < c.buckets then ((leN (l.take 4) : Int), l.drop 4, 0) else (0, [], 201)) else (0, [], 4)) else (0, [], 200)
set_option maxHeartbeats 1000000 in
theorem parseDial (w : World) (c : Cfg) (A : Option Addr) (ca : Nat) (l : List UInt8) (hA : Rd w A (l.map u8)) (hm : -9223372036854775808 ≤ c.message ∧ c.message ≤ 9223372036854775807) :
    Calls Tryd.prog 38 #[c.val, .slice A l.length ca] w (Ret (AnsI (dialParsed c l).1 (dialParsed c l).2.1 (dialParsed c l).2.2 w)) := by
  refine enter (args := [_, _]) Tryd.func38 rfl rfl rfl ?_
  repeat (first | refine st ?_ | (refine sa ?_; intro _))
  apply VL_loadW (k := 0); exact .none; exact rfl; exact rfl; exact rfl; exact rfl; exact rfl
  repeat (first | refine st ?_ | (refine sa ?_; intro _))
  apply VL_call; exact .none; exact rfl; exact rfl
  · intro w1 s; exact fits w1 c A l.length ca 92 hm
  rintro w1 v w2 s ⟨rfl, t⟩
  refine ⟨_, _, s.comp t, ?_⟩
  unfold dialParsed fitsE
  by_cases hg : c.good
  · rw [if_pos hg, if_pos hg]
    have hg' := hg
    unfold Cfg.good at hg'
    by_cases h : (l.length : Int) = 92
    · rw [if_pos h, if_pos h]
      obtain ⟨ba, me, bu, te, wi, wo⟩ := c
      dsimp only at h hg' ⊢
      obtain ⟨k, rfl⟩ := Int.eq_ofNat_of_zero_le (show 0 ≤ bu by omega)
      have hk32 : (UInt32.ofNat k).toNat = k := by rw [UInt32.toNat_ofNat', Nat.mod_eq_of_lt (by omega)]
      have hb4 : leN (l.take 4) < 4294967296 := by
        have := leN_lt (l.take 4)
        rw [List.length_take, Nat.min_eq_left (by omega)] at this
        exact this
      have hb32 : (UInt32.ofNat (leN (l.take 4))).toNat = leN (l.take 4) := by rw [UInt32.toNat_ofNat', Nat.mod_eq_of_lt hb4]
      repeat (first | refine st ?_ | (refine sa ?_; intro _))
      apply VL_call; exact .none; exact rfl; exact rfl
      · intro w1 s; exact newReader w1 A ca l (s.rd hA) (by omega)
      rintro w1 v w2 s ⟨b, d, rfl, t⟩
      refine ⟨_, _, s.comp0 t, ?_⟩
      repeat (first | refine st ?_ | (refine sa ?_; intro _))
      have hbd : ∀ w1 x o, St w [] [x, Blk d (l.map u8) 5, some (b, o)] w1 → d ≠ b := fun w1 x o s e => by subst e; have := s.nd 1 2 _ _ _ rfl rfl; omega
      apply VL_call; exact .none; exact rfl; exact rfl
      · intro w1 s; exact u32_ok w1 b (some ⟨d, 0, none⟩) l.length l (s.new 2 b _ rfl).2 (s.rdH (k := 1) rfl) (fun a ha => by cases ha; exact hbd w1 _ _ s) (by omega) (Nat.le_refl _) (by omega)
      rintro w1 v w2 s ⟨rfl, A1, hA1, t⟩
      refine ⟨_, _, s.comp1 (k := 2) rfl t, ?_⟩
      repeat (first | refine st ?_ | (refine sa ?_; intro _))
      by_cases hlt : leN (l.take 4) < k
      · rw [if_pos (by omega)]
        repeat (first | refine st ?_ | (refine sa ?_; intro _))
        have hrd : ∀ w1 x e, St w [] [x, Blk d (l.map u8) 5, some (b, e)] w1 → Rd w1 A1 ((l.drop 4).map u8) := fun w1 x e s =>
          (s.rdH (k := 1) rfl).sub hA1 (by simp) (fun j v hj => by
            simp only [List.getElem?_map, List.getElem?_drop] at hj ⊢; exact hj)
        apply VL_call; exact .none; exact rfl; exact rfl
        · intro w1 s
          refine bytes_ok w1 b A1 (l.drop 4).length (l.length - 4) 88 (l.drop 4) (s.new 2 b _ rfl).2 (hrd w1 _ _ s) (fun a ha => ?_) rfl (by simp; omega) (by simp) (by omega)
          rcases hA1 with ⟨h0, -⟩ | rfl
          · omega
          · simp at ha; subst ha; rw [add_norm]; exact hbd w1 _ _ s
        rintro w1 v w2 s ⟨e2, A2, c2, rfl, ho, A3, hA3, t⟩
        refine ⟨_, _, s.comp1 (k := 2) rfl t, ?_⟩
        rw [List.take_of_length_le (by simp; omega)] at ho
        repeat (first | refine st ?_ | (refine sa ?_; intro _))
        exact VE_ret3 rfl rfl rfl rfl (fun w s => ⟨_, rfl, e2, A2, c2, by simp; omega, ho, s.pick [3] (by decide)⟩)
      · rw [if_neg (by omega)]
        repeat (first | refine st ?_ | (refine sa ?_; intro _))
        exact VE_ret3 rfl rfl rfl rfl (fun w s => ⟨_, rfl, AnsI.none s⟩)
    · rw [if_neg h, if_neg h]
      repeat (first | refine st ?_ | (refine sa ?_; intro _))
      exact VE_ret3 rfl rfl rfl rfl (fun w s => ⟨_, rfl, AnsI.none s⟩)
  · rw [if_neg hg, if_neg hg]
    repeat (first | refine st ?_ | (refine sa ?_; intro _))
    exact VE_ret3 rfl rfl rfl rfl (fun w s => ⟨_, rfl, AnsI.none s⟩)
end Go.Proofs.YtpboahlpgfglkaaDoor.X
