/-
  Contracts: numbers read off bytes.
-/
import Derived.Test.YtpboahlpgfglkaaDoorF2
namespace Go.Proofs.YtpboahlpgfglkaaDoor.X
open Go Go.RowKit
set_option linter.unusedVariables false
set_option linter.unusedSimpArgs false
set_option maxRecDepth 100000

/-- the number whose bytes these are, the lowest first -/
def leN : List UInt8 → Nat
  | [] => 0
  | c :: r => c.toNat + 256 * leN r
theorem leN_snoc (l : List UInt8) (c : UInt8) : leN (l ++ [c]) = leN l + 2 ^ (8 * l.length) * c.toNat := by
  induction l with
  | nil => simp [leN]
  | cons a l ih =>
    simp only [List.cons_append, leN, ih, List.length_cons]
    have : 2 ^ (8 * (l.length + 1)) = 256 * 2 ^ (8 * l.length) := by rw [Nat.mul_add, Nat.pow_add, Nat.mul_comm]
    rw [this, Nat.mul_add, Nat.mul_assoc, Nat.add_assoc]
theorem leN_lt (l : List UInt8) : leN l < 2 ^ (8 * l.length) := by
  induction l with
  | nil => simp [leN]
  | cons a l ih =>
    simp only [leN, List.length_cons]
    have := a.toNat_lt
    have e : 2 ^ (8 * (l.length + 1)) = 256 * 2 ^ (8 * l.length) := by rw [Nat.mul_add, Nat.pow_add, Nat.mul_comm]
    omega
theorem leN_step32 (l : List UInt8) (k : Nat) (hk : k < l.length) (h4 : l.length ≤ 4) :
    UInt32.ofNat (leN (l.take k)) ||| (l.getD k 0).toUInt32 <<< UInt32.ofNat (8 * k) = UInt32.ofNat (leN (l.take (k + 1))) := by
  rw [take_snoc8 hk, leN_snoc]
  have hl : (l.take k).length = k := by simp; omega
  have hlt := leN_lt (l.take k)
  rw [hl] at hlt ⊢
  have hc := (l.getD k 0).toNat_lt
  have hp : 2 ^ (8 * k) * 256 ≤ 2 ^ 32 := by
    have : 2 ^ (8 * k) * 256 = 2 ^ (8 * k + 8) := by rw [Nat.pow_add]
    rw [this]; exact Nat.pow_le_pow_right (by omega) (by omega)
  have h1 : 2 ^ (8 * k) * (l.getD k 0).toNat ≤ 2 ^ (8 * k) * 255 := Nat.mul_le_mul_left _ (by omega)
  apply UInt32.toNat_inj.1
  rw [UInt32.toNat_or, UInt32.toNat_shiftLeft, UInt32.toNat_ofNat', UInt32.toNat_ofNat', UInt32.toNat_ofNat', UInt8.toNat_toUInt32, Nat.mod_eq_of_lt (show leN (l.take k) < 2 ^ 32 by omega),
    Nat.mod_eq_of_lt (show 8 * k < 2 ^ 32 by omega), Nat.mod_eq_of_lt (show 8 * k < 32 by omega), Nat.shiftLeft_eq, Nat.mul_comm (l.getD k 0).toNat, Nat.mod_eq_of_lt (show 2 ^ (8 * k) * (l.getD k 0).toNat < 2 ^ 32 by omega),
    Nat.mod_eq_of_lt (by omega), Nat.or_comm, ← Nat.two_pow_add_eq_or_of_lt hlt, Nat.add_comm]

theorem low32 (w : World) (A : Option Addr) (ca : Nat) (l : List UInt8) (hA : Rd w A (l.map u8)) (hl : l.length ≤ 4) :
    Calls Tryd.prog 91 #[.slice A l.length ca] w (Ret fun v w' => v = u32 (UInt32.ofNat (leN l)) ∧ St w [] [] w') := by
  refine enter (args := [_]) Tryd.func91 rfl rfl rfl ?_
  repeat (first | refine st ?_ | (refine sa ?_; intro _))
  refine VC_loop ⟨fun k : Nat => k ≤ l.length, fun k => [(3, u32 (UInt32.ofNat (leN (l.take k)))), (6, .slice A l.length ca), (7, i64 (l.length : Int)), (8, i64 (k : Int))], fun _ => [], fun _ => []⟩ (fun k => l.length - k) 0 (by simp) ⟨rfl, rfl, rfl, rfl, trivial⟩ (fun _ s => s) ?_
  rintro k hk
  dsimp only at hk ⊢
  repeat (first | refine st ?_ | (refine sa ?_; intro _))
  refine VC_cond_d rfl (fun h => ?_) (fun h => ?_)
  · repeat (first | refine st ?_ | (refine sa ?_; intro _))
    apply VL_bin; exact .none; exact rfl; exact rfl; exact b32_shl (c' := 8 * k) (by omega) (by omega); exact rfl
    repeat (first | refine st ?_ | (refine sa ?_; intro _))
    rw [leN_step32 l k (by omega) hl]
    exact VE_fam (k + 1) (by (try dsimp only); omega) (by (try dsimp only); omega) ⟨rfl, rfl, rfl, rfl, trivial⟩ (fun _ s => s)
  · have hk' : k = l.length := by omega
    subst hk'
    repeat (first | refine st ?_ | (refine sa ?_; intro _))
    rw [List.take_length]
    exact VE_ret1 rfl rfl (fun w s => ⟨_, rfl, rfl, s⟩)
/-- the document's: by a loop downwards -/
theorem numberRef (w : World) (A : Option Addr) (ca : Nat) (l : List UInt8) (hA : Rd w A (l.map u8)) (hl : l.length ≤ 4) :
    Calls Tryd.prog 73 #[.slice A l.length ca] w (Ret fun v w' => v = i64 (leN l : Int) ∧ St w [] [] w') := by
  refine enter (args := [_]) Tryd.func73 rfl rfl rfl ?_
  repeat (first | refine st ?_ | (refine sa ?_; intro _))
  refine VC_loop ⟨fun k : Nat => k ≤ l.length, fun k => [(0, .slice A l.length ca), (3, i64 (leN (l.drop (l.length - k)) : Int)), (4, i64 ((l.length : Int) - 1 - k))], fun _ => [], fun _ => []⟩ (fun k => l.length - k) 0 (by simp) ⟨rfl, by rw [Nat.sub_zero, List.drop_length]; rfl, by rw [show (l.length : Int) - 1 - ((0 : Nat) : Int) = (l.length : Int) - 1 by omega]; rfl, trivial⟩ (fun _ s => s) ?_
  rintro k hk
  dsimp only at hk ⊢
  repeat (first | refine st ?_ | (refine sa ?_; intro _))
  refine VC_cond_d rfl (fun h => ?_) (fun h => ?_)
  · have hlt : leN (l.drop (l.length - k)) < 2 ^ 24 := by
      have := leN_lt (l.drop (l.length - k))
      refine Nat.lt_of_lt_of_le this (Nat.pow_le_pow_right (by omega) ?_)
      simp only [List.length_drop]; omega
    have e : ((l.length : Int) - 1 - k).toNat = l.length - 1 - k := by omega
    have h8 : (l.getD ((l.length : Int) - 1 - k).toNat 0).toNat < 256 := (l.getD _ 0).toNat_lt
    repeat (first | refine st ?_ | (refine sa ?_; intro _))
    have e2 : (leN (l.drop (l.length - k)) : Int) * 256 + ((l.getD ((l.length : Int) - 1 - k).toNat 0).toNat : Int) = (leN (l.drop (l.length - (k + 1))) : Int) := by
      have hd : l.drop (l.length - (k + 1)) = l.getD (l.length - 1 - k) 0 :: l.drop (l.length - k) := by
        have hi : l.length - (k + 1) < l.length := by omega
        rw [List.drop_eq_getElem_cons hi, show l.length - (k + 1) + 1 = l.length - k by omega]
        simp only [show l.length - (k + 1) = l.length - 1 - k by omega]
        simp [List.getD, List.getElem?_eq_getElem (show l.length - 1 - k < l.length by omega)]
      rw [hd, e, leN]; omega
    rw [e2]
    exact VE_fam (k + 1) (by (try dsimp only); omega) (by (try dsimp only); omega) ⟨rfl, rfl, by rw [show (l.length : Int) - 1 - ((k + 1 : Nat) : Int) = (l.length : Int) - 1 - k - 1 by omega]; rfl, trivial⟩ (fun _ s => s)
  · have hk' : k = l.length := by omega
    subst hk'
    repeat (first | refine st ?_ | (refine sa ?_; intro _))
    rw [Nat.sub_self, List.drop_zero]
    exact VE_ret1 rfl rfl (fun w s => ⟨_, rfl, rfl, s⟩)

/-! ### the reader's numbers -/
/-- what is left of a list that the reader holds -/
def Left (w : World) (b : Nat) (A : Option Addr) (c : Nat) (l : List UInt8) : Prop := Rd w A (l.map u8) ∧ l.length ≤ c ∧ (∀ a, A = some a → a.block ≠ b)

theorem u32_ok (w : World) (b : Nat) (A : Option Addr) (c : Nat) (l : List UInt8) (hb : w.heap[b]? = some (rdr A l.length c 0)) (hA : Rd w A (l.map u8)) (hne : ∀ a, A = some a → a.block ≠ b) (hn : 4 ≤ l.length) (hm : l.length ≤ c) (hc : c ≤ 4611686018427387904) :
    Calls Tryd.prog 70 #[.pointer (some ⟨b, 0, none⟩)] w (Ret fun v w' => v = u32 (UInt32.ofNat (leN (l.take 4))) ∧ ∃ A', Sub A A' 4 (c - 4) ∧ St w [(b, rdr A' (l.drop 4).length (c - 4) 0)] [] w') := by
  refine enterM (args := [_]) Tryd.func70 rfl rfl rfl (St.one hb) ?_
  repeat (first | refine st ?_ | (refine sa ?_; intro _))
  apply VL_call; exact .none; exact rfl; exact rfl
  · intro w1 s; exact take_ok w1 b A l.length c 4 (s.mold 0 b _ rfl).2 hn hm hc
  rintro w1 v w2 s ⟨rfl, A', hA', t⟩
  refine ⟨_, _, s.compM (k := 0) rfl t, ?_⟩
  repeat (first | refine st ?_ | (refine sa ?_; intro _))
  have hl4 : (l.take 4).length = 4 := by simp; omega
  apply VL_call; exact .none; exact rfl; exact rfl
  · intro w3 s3
    have hr : Rd w3 A ((l.take 4).map u8) := by
      have h0 : Rd w A ((l.take 4).map u8) := by
        rw [← List.take_append_drop 4 l, List.map_append] at hA; exact hA.append
      exact s3.rdM h0 (fun a ha => by simpa using hne a ha)
    have := low32 w3 A 4 (l.take 4) hr (by omega)
    rw [hl4] at this
    exact this
  rintro w3 v w4 s3 ⟨rfl, t3⟩
  refine ⟨_, _, s3.comp t3, ?_⟩
  repeat (first | refine st ?_ | (refine sa ?_; intro _))
  exact VE_ret1 rfl rfl (fun w s => ⟨_, rfl, rfl, A', hA', by simpa using s⟩)
theorem u32_none (w : World) (b : Nat) (A : Option Addr) (m c : Nat) (e : Int) (hb : w.heap[b]? = some (rdr A m c e)) (h : e ≠ 0 ∨ m < 4) :
    Calls Tryd.prog 70 #[.pointer (some ⟨b, 0, none⟩)] w (Ret fun v w' => v = u32 0 ∧ ∃ e' : Int, e' ≠ 0 ∧ St w [(b, rdr A m c e')] [] w') := by
  have hcall : ∀ w1, w1.heap[b]? = some (rdr A m c e) → Calls Tryd.prog 92 #[.pointer (some ⟨b, 0, none⟩), i64 4] w1 (Ret fun v w' => v = .slice none 0 0 ∧ ∃ e' : Int, e' ≠ 0 ∧ St w1 [(b, rdr A m c e')] [] w') := by
    intro w1 h1
    by_cases he : e = 0
    · subst he
      refine (take_short w1 b A m c 4 h1 (by omega) (by omega)).mono ?_
      rintro x w' ⟨v, rfl, rfl, s⟩; exact ⟨_, rfl, rfl, 20, by omega, s⟩
    · refine (take_err w1 b A m c 4 e h1 he).mono ?_
      rintro x w' ⟨v, rfl, rfl, s⟩; exact ⟨_, rfl, rfl, e, he, s⟩
  refine enterM (args := [_]) Tryd.func70 rfl rfl rfl (St.one hb) ?_
  repeat (first | refine st ?_ | (refine sa ?_; intro _))
  apply VL_call; exact .none; exact rfl; exact rfl
  · intro w1 s; exact hcall w1 (s.mold 0 b _ rfl).2
  rintro w1 v w2 s ⟨rfl, e', he', t⟩
  refine ⟨_, _, s.compM (k := 0) rfl t, ?_⟩
  repeat (first | refine st ?_ | (refine sa ?_; intro _))
  apply VL_call; exact .none; exact rfl; exact rfl
  · intro w3 s3; exact low32 w3 none 0 [] (.inl rfl) (by simp)
  rintro w3 v w4 s3 ⟨rfl, t3⟩
  refine ⟨_, _, s3.comp t3, ?_⟩
  repeat (first | refine st ?_ | (refine sa ?_; intro _))
  exact VE_ret1 rfl rfl (fun w s => ⟨_, rfl, rfl, e', he', by simpa using s⟩)
end Go.Proofs.YtpboahlpgfglkaaDoor.X
