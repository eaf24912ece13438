/-
  Contracts: how many pages a round needs.
-/
import Derived.Test.YtpboahlpgfglkaaDoorF11
namespace Go.Proofs.YtpboahlpgfglkaaDoor.X
open Go Go.RowKit
set_option linter.unusedVariables false
set_option linter.unusedSimpArgs false
set_option maxRecDepth 100000

/-- how many bits a small number has -/
def blen (x : Nat) : Nat := if x < 1 then 0 else if x < 2 then 1 else if x < 4 then 2 else if x < 8 then 3 else if x < 16 then 4 else if x < 32 then 5 else if x < 64 then 6 else if x < 128 then 7 else 8
/-- the least power of two that is not less, of small numbers -/
def pad (n : Nat) : Nat := if n < 1 then 0 else if n ≤ 1 then 1 else if n ≤ 2 then 2 else if n ≤ 4 then 4 else if n ≤ 8 then 8 else if n ≤ 16 then 16 else if n ≤ 32 then 32 else if n ≤ 64 then 64 else if n ≤ 128 then 128 else 256
theorem padTab : ((List.range 257).all fun n => (List.range 9).all fun k => decide (1 ≤ n → (2 ^ k < n → k < 8 ∧ 2 ^ (k + 1) ≤ pad n) ∧ (n ≤ 2 ^ k → 2 ^ k ≤ pad n → pad n = 2 ^ k))) = true := by kernel_rfl
theorem padTab2 : ((List.range 256).all fun m => decide (pad (m + 1) = 2 ^ blen m)) = true := by kernel_rfl
theorem pad_blen (m : Nat) (h : m < 256) : pad (m + 1) = 2 ^ blen m := of_decide_eq_true ((List.all_eq_true.1 padTab2) m (by simpa using h))
theorem pad_all {n k : Nat} (hn : 1 ≤ n) (hn2 : n ≤ 256) (hk : k ≤ 8) : (2 ^ k < n → k < 8 ∧ 2 ^ (k + 1) ≤ pad n) ∧ (n ≤ 2 ^ k → 2 ^ k ≤ pad n → pad n = 2 ^ k) :=
  of_decide_eq_true ((List.all_eq_true.1 ((List.all_eq_true.1 padTab) n (by simp; omega))) k (by simp; omega)) hn
theorem blen_le (m : Nat) : blen m ≤ 8 := by
  unfold blen
  repeat' split
  all_goals omega
theorem pad_bounds (n : Nat) (hn : n ≤ 256) : n ≤ pad n ∧ pad n ≤ 2 * n ∧ pad n ≤ 256 := by
  unfold pad
  repeat' split
  all_goals omega

def tabOk (s : ByteArray) : Bool := (List.range 256).all fun x => s[x]? == some (UInt8.ofNat (blen x))
theorem tab_get (s : ByteArray) (h : tabOk s = true) (x : Nat) (hx : x < 256) : s[x]? = some (UInt8.ofNat (blen x)) := by
  unfold tabOk at h
  rw [List.all_eq_true] at h
  exact eq_of_beq (h x (by simpa using hx))

theorem len64 (w : World) (x : Nat) (hx : x < 256) : Calls Tryd.prog 107 #[u64 (UInt64.ofNat x)] w (Ret fun v w' => v = i64 (blen x : Int) ∧ St w [] [] w') := by
  have e1 : (UInt64.ofNat x).toNat = x := by rw [UInt64.toNat_ofNat', Nat.mod_eq_of_lt (by omega)]
  have e2 : (UInt64.ofNat x).toUInt8.toNat = x := by simp; omega
  have hb := blen_le x
  have e3 : (UInt8.ofNat (blen x)).toNat = blen x := by simp; omega
  refine enter (args := [_]) Tryd.func107 rfl rfl rfl ?_
  repeat (first | refine st ?_ | (refine sa ?_; intro _))
  apply VL_index_string (i' := x) (c := UInt8.ofNat (blen x)); exact .none; exact rfl; exact rfl; (rw [e2]); (exact tab_get _ (by kernel_rfl) x hx); exact rfl
  rw [e3]
  repeat (first | refine st ?_ | (refine sa ?_; intro _))
  exact VE_ret1 rfl rfl (fun w s => ⟨_, rfl, by simp, s⟩)
theorem bitsLen (w : World) (x : Nat) (hx : x < 256) : Calls Tryd.prog 94 #[u64 (UInt64.ofNat x)] w (Ret fun v w' => v = i64 (blen x : Int) ∧ St w [] [] w') := by
  refine enter (args := [_]) Tryd.func94 rfl rfl rfl ?_
  repeat (first | refine st ?_ | (refine sa ?_; intro _))
  apply VL_call; exact .none; exact rfl; exact rfl
  · intro w1 s; exact len64 w1 x hx
  rintro w1 v w2 s ⟨rfl, t⟩
  refine ⟨_, _, s.comp t, ?_⟩
  repeat (first | refine st ?_ | (refine sa ?_; intro _))
  exact VE_ret1 rfl rfl (fun w s => ⟨_, rfl, rfl, s⟩)
theorem wrap_u64_pred (m : Nat) : IntKind.u64.wrap (((m + 1 : Nat) : Int) - 1) = ((UInt64.ofNat m).toNat : Int) := by
  rw [show ((m + 1 : Nat) : Int) - 1 = (m : Int) by omega]; exact wrap_u64_of m
theorem netPad (w : World) (n : Nat) (hn : n ≤ 256) : Calls Tryd.prog 78 #[i64 (n : Int)] w (Ret fun v w' => v = i64 (pad n : Int) ∧ St w [] [] w') := by
  rcases n with _ | m
  · refine enter (args := [_]) Tryd.func78 rfl rfl rfl ?_
    repeat (first | refine st ?_ | (refine sa ?_; intro _))
    exact VE_ret1 rfl rfl (fun w s => ⟨_, rfl, rfl, s⟩)
  · refine enter (args := [_]) Tryd.func78 rfl rfl rfl ?_
    repeat (first | refine st ?_ | (refine sa ?_; intro _))
    apply VL_convert; exact .none; exact rfl; exact wrap_u64_pred m; exact rfl
    apply VL_call; exact .none; exact rfl; exact rfl
    · intro w1 s; exact bitsLen w1 m (by omega)
    rintro w1 v w2 s ⟨rfl, t⟩
    refine ⟨_, _, s.comp t, ?_⟩
    have h8 := blen_le m
    rw [pad_blen m (by omega)]
    obtain ⟨k, hk⟩ : ∃ k, k = blen m := ⟨_, rfl⟩
    rw [← hk] at h8 ⊢
    apply VL_bin (v := i64 ((2 ^ k : Nat) : Int)); exact .none; exact rfl; exact rfl
    · rcases k with _ | _ | _ | _ | _ | _ | _ | _ | _ | k <;> first | rfl | omega
    exact rfl
    repeat (first | refine st ?_ | (refine sa ?_; intro _))
    exact VE_ret1 rfl rfl (fun w s => ⟨_, rfl, rfl, s⟩)
theorem refPad (w : World) (n : Nat) (hn : n ≤ 256) : Calls Tryd.prog 80 #[i64 (n : Int)] w (Ret fun v w' => v = i64 (pad n : Int) ∧ St w [] [] w') := by
  rcases n with _ | m
  · refine enter (args := [_]) Tryd.func80 rfl rfl rfl ?_
    repeat (first | refine st ?_ | (refine sa ?_; intro _))
    exact VE_ret1 rfl rfl (fun w s => ⟨_, rfl, rfl, s⟩)
  · obtain ⟨n, hnm⟩ : ∃ n, n = m + 1 := ⟨_, rfl⟩
    rw [← hnm] at hn ⊢
    have h1 : 1 ≤ n := by omega
    have hpad := pad_bounds n hn
    refine enter (args := [_]) Tryd.func80 rfl rfl rfl ?_
    repeat (first | refine st ?_ | (refine sa ?_; intro _))
    refine VC_loop ⟨fun k : Nat => k ≤ 8 ∧ 2 ^ k ≤ pad n, fun k => [(0, i64 (n : Int)), (3, i64 ((2 ^ k : Nat) : Int))], fun _ => [], fun _ => []⟩ (fun k => 8 - k) 0 ⟨by omega, by (try dsimp only); omega⟩ ⟨rfl, rfl, trivial⟩ (fun _ s => s) ?_
    rintro k ⟨hk, hp⟩
    dsimp only at hk hp ⊢
    obtain ⟨p, hpp⟩ : ∃ p, p = 2 ^ k := ⟨_, rfl⟩
    rw [← hpp] at hp ⊢
    by_cases hlt : p < n
    · obtain ⟨hk8, hp2⟩ := (pad_all h1 hn hk).1 (by omega)
      repeat (first | refine st ?_ | (refine sa ?_; intro _))
      refine VE_fam (k + 1) ⟨by omega, hp2⟩ (by (try dsimp only); omega) ⟨rfl, ?_, trivial⟩ (fun _ s => s)
      rw [Nat.pow_succ, ← hpp, show ((p * 2 : Nat) : Int) = 2 * (p : Int) by omega]; rfl
    · rw [(pad_all h1 hn hk).2 (by omega) (by omega), ← hpp]
      repeat (first | refine st ?_ | (refine sa ?_; intro _))
      exact VE_ret1 rfl rfl (fun w s => ⟨_, rfl, rfl, s⟩)

def ceilDiv (n h : Nat) : Nat := (n + h - 1) / h
theorem ceil_eq (n h : Nat) (hh : 1 ≤ h) : ceilDiv n h = n / h + (if n % h = 0 then 0 else 1) := by
  unfold ceilDiv
  have h1 := Nat.div_add_mod n h
  have h2 := Nat.mod_lt n (show h > 0 by omega)
  split
  · rename_i h0
    have e : n + h - 1 = (h - 1) + h * (n / h) := by omega
    rw [e, Nat.add_mul_div_left _ _ (by omega), Nat.div_eq_of_lt (by omega)]; omega
  · rename_i h0
    have e : n + h - 1 = (n % h - 1) + h * (n / h + 1) := by rw [Nat.mul_add]; omega
    rw [e, Nat.add_mul_div_left _ _ (by omega), Nat.div_eq_of_lt (by omega)]; omega
theorem ceil_le (n h : Nat) (hh : 1 ≤ h) : ceilDiv n h ≤ n := by
  rw [ceil_eq n h hh]
  have h1 := Nat.div_add_mod n h
  have h3 : n / h ≤ h * (n / h) := Nat.le_mul_of_pos_left _ (by omega)
  split <;> omega

theorem pagesIn (w : World) (n h : Nat) (hn : n ≤ 256) (hh : 1 ≤ h) (hh2 : h ≤ 4096) : Calls Tryd.prog 93 #[i64 (n : Int), i64 (h : Int)] w (Ret fun v w' => v = i64 (ceilDiv n h : Int) ∧ St w [] [] w') := by
  rw [ceil_eq n h hh]
  have hd : n / h ≤ n := Nat.div_le_self _ _
  have e1 : (n : Int) / (h : Int) = ((n / h : Nat) : Int) := by simp
  have e2 : (n : Int) % (h : Int) = ((n % h : Nat) : Int) := by simp
  refine enter (args := [_, _]) Tryd.func93 rfl rfl rfl ?_
  repeat (first | refine st ?_ | (refine sa ?_; intro _))
  by_cases h0 : n % h = 0
  · rw [if_pos h0]
    rw [e1, e2]
    obtain ⟨q, hq⟩ : ∃ q, q = n / h := ⟨_, rfl⟩
    obtain ⟨r, hr⟩ : ∃ r, r = n % h := ⟨_, rfl⟩
    rw [← hq] at hd ⊢
    rw [← hr] at h0 ⊢
    repeat (first | refine st ?_ | (refine sa ?_; intro _))
    exact VE_ret1 rfl rfl (fun w s => ⟨_, rfl, rfl, s⟩)
  · rw [if_neg h0]
    rw [e1, e2]
    obtain ⟨q, hq⟩ : ∃ q, q = n / h := ⟨_, rfl⟩
    obtain ⟨r, hr⟩ : ∃ r, r = n % h := ⟨_, rfl⟩
    rw [← hq] at hd ⊢
    rw [← hr] at h0 ⊢
    repeat (first | refine st ?_ | (refine sa ?_; intro _))
    exact VE_ret1 rfl rfl (fun w s => ⟨_, rfl, by simp, s⟩)
theorem refPagesIn (w : World) (n s t : Nat) (hn : n ≤ 256) (hs : 1 ≤ s) (ht : s ≤ t) (ht2 : t ≤ 4096) : Calls Tryd.prog 79 #[i64 (n : Int), i64 (s : Int), i64 (t : Int)] w (Ret fun v w' => v = i64 (ceilDiv n (t / s) : Int) ∧ St w [] [] w') := by
  have hd : t / s ≤ t := Nat.div_le_self _ _
  have hd1 : 1 ≤ t / s := (Nat.le_div_iff_mul_le (by omega)).2 (by omega)
  have e1 : (t : Int) / (s : Int) = ((t / s : Nat) : Int) := by simp
  refine enter (args := [_, _, _]) Tryd.func79 rfl rfl rfl ?_
  repeat (first | refine st ?_ | (refine sa ?_; intro _))
  rw [e1]
  obtain ⟨h, hh⟩ : ∃ h, h = t / s := ⟨_, rfl⟩
  rw [← hh] at hd hd1 ⊢
  repeat (first | refine st ?_ | (refine sa ?_; intro _))
  refine VE_ret1 rfl rfl (fun w s => ⟨_, rfl, ?_, s⟩)
  unfold ceilDiv
  rw [show (n : Int) + (h : Int) - 1 = ((n + h - 1 : Nat) : Int) by omega]
  rfl
theorem slotsPages (w : World) (n s t : Nat) (hn : n ≤ 256) (hs : 1 ≤ s) (ht : s ≤ t) (ht2 : t ≤ 4096) : Calls Tryd.prog 77 #[i64 (n : Int), i64 (s : Int), i64 (t : Int)] w (Ret fun v w' => v = .tuple #[i64 (ceilDiv n (t / s) : Int), i64 0] ∧ St w [] [] w') := by
  have hd : t / s ≤ t := Nat.div_le_self _ _
  have hd1 : 1 ≤ t / s := (Nat.le_div_iff_mul_le (by omega)).2 (by omega)
  have e1 : (t : Int) / (s : Int) = ((t / s : Nat) : Int) := by simp
  have hc := ceil_le n (t / s) hd1
  refine enter (args := [_, _, _]) Tryd.func77 rfl rfl rfl ?_
  repeat (first | refine st ?_ | (refine sa ?_; intro _))
  rw [e1]
  apply VL_call; exact .none; exact rfl; exact rfl
  · intro w1 q; exact pagesIn w1 n (t / s) hn hd1 (by omega)
  rintro w1 v w2 q ⟨rfl, t1⟩
  refine ⟨_, _, q.comp t1, ?_⟩
  repeat (first | refine st ?_ | (refine sa ?_; intro _))
  exact VE_ret2 rfl rfl rfl (fun w s => ⟨_, rfl, rfl, s⟩)

/-- how many pages a round needs; the error -/
def cfgPages (c : Cfg) (kind n : Int) : Int × Int :=
  if (cfgSizes c kind).2.2.2 ≠ 0 then (0, (cfgSizes c kind).2.2.2) else if n < 0 then (0, 2) else if c.batch < n then (0, 252) else
    (((ceilDiv (pad n.toNat) (c.text.toNat / (cfgSizes c kind).2.2.1.toNat) + ceilDiv n.toNat (c.text.toNat / 32) : Nat) : Int), 0)
theorem cfgSizes_ok {c : Cfg} {kind : Int} (h : (cfgSizes c kind).2.2.2 = 0) : c.good ∧ 1 ≤ (cfgSizes c kind).2.2.1 ∧ (cfgSizes c kind).2.2.1 ≤ c.text ∧ (kind = 1 ∨ kind = 2) := by
  unfold cfgSizes at h ⊢
  by_cases hg : c.good
  · have hg' := hg
    unfold Cfg.good at hg'
    rw [if_pos hg] at h ⊢
    by_cases h1 : kind = 1
    · rw [if_pos h1]; dsimp only; exact ⟨hg, by omega, by omega, .inl h1⟩
    · rw [if_neg h1] at h ⊢
      by_cases h2 : kind = 2
      · rw [if_pos h2]; dsimp only; exact ⟨hg, by omega, by omega, .inr h2⟩
      · rw [if_neg h2] at h; simp at h
  · rw [if_neg hg] at h; simp at h
end Go.Proofs.YtpboahlpgfglkaaDoor.X
