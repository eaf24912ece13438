/-
  Contracts: the document's requests of a dial round, its acknowledgement.
-/
import Derived.Test.YtpboahlpgfglkaaDoorF31
namespace Go.Proofs.YtpboahlpgfglkaaDoor.X
open Go Go.RowKit
set_option linter.unusedVariables false
set_option linter.unusedSimpArgs false
set_option maxRecDepth 100000

theorem str_size (l : List UInt8) : (⟨l.toArray⟩ : ByteArray).size = l.length := by simp [ByteArray.size]
theorem str_get {l : List UInt8} {k : Nat} (h : k < l.length) : (⟨l.toArray⟩ : ByteArray)[k]? = some (l.getD k 0) := by
  have hk : k < (⟨l.toArray⟩ : ByteArray).size := by rw [str_size]; exact h
  rw [getElem?_pos _ k hk]
  congr 1
  show l.toArray[k] = _
  simp [List.getD, List.getElem?_eq_getElem h]
theorem text (w : World) (l : List UInt8) (hl : l.length ≤ 140737488351232) :
    Calls Tryd.prog 61 #[.string ⟨l.toArray⟩] w (Ret fun v w' => ∃ e A' c', v = .slice A' l.length c' ∧ OwnSl e A' c' 5 (l.map u8) ∧ St w [] [e] w') := by
  have hsz := str_size l
  refine enter (args := [_]) Tryd.func61 rfl rfl rfl ?_
  repeat (first | refine st ?_ | (refine sa ?_; intro _))
  refine VC_loop ⟨fun i : Nat × Ent × Option Addr × Nat => i.1 ≤ l.length ∧ OwnSl i.2.1 i.2.2.1 i.2.2.2 5 ((l.take i.1).map u8), fun i => [(0, .string ⟨l.toArray⟩), (3, .slice i.2.2.1 i.1 i.2.2.2), (4, i64 (i.1 : Int))], fun _ => [], fun i => [i.2.1]⟩ (fun i => l.length - i.1) (0, none, none, 0) ⟨by simp, OwnSl.nil _⟩ ⟨rfl, rfl, rfl, trivial⟩ (fun _ s => s.none) ?_
  rintro ⟨k, e, A', c'⟩ ⟨hk, ho⟩
  dsimp only at hk ho ⊢
  have hlen : ((l.take k).map u8).length = k := by simp; omega
  by_cases hkn : k < l.length
  · have hk1 : (k : Int) < ((⟨l.toArray⟩ : ByteArray).size : Int) := by rw [hsz]; omega
    repeat (first | refine st ?_ | (refine sa ?_; intro _))
    apply VL_index_string; exact .none; exact rfl; exact rfl; exact rfl; exact str_get hkn; exact rfl
    apply VL_buildSlice1; exact .none; exact rfl; exact rfl; exact rfl; exact rfl; exact rfl; exact rfl; exact rfl
    intro b
    refine VL_append (vs := (l.take k).map u8) (news := [u8 (l.getD k 0)]) (p := 0) (r := k + 1) .none rfl rfl rfl rfl ho hlen.symm (all_u8 _) rfl (fun w s => s.rdH (k := 1) rfl) rfl rfl (by rw [hlen]; rfl) (by omega) rfl (fun e2 A2 c2 h2 => ?_)
    repeat (first | refine st ?_ | (refine sa ?_; intro _))
    refine VE_fam (k + 1, e2, A2, c2) ⟨by (try dsimp only); omega, ?_⟩ (by (try dsimp only); omega) ⟨rfl, rfl, rfl, trivial⟩ (fun _ s => s.pick [0] (by decide))
    rw [take_snoc8 (by omega), List.map_append]; exact h2
  · have hk' : k = l.length := by omega
    subst hk'
    have hk1 : ¬ (((l.length : Nat) : Int) < ((⟨l.toArray⟩ : ByteArray).size : Int)) := by rw [hsz]; omega
    rw [List.take_length] at ho
    repeat (first | refine st ?_ | (refine sa ?_; intro _))
    exact VE_ret1 rfl rfl (fun w s => ⟨_, rfl, e, A', c', rfl, ho, s⟩)
theorem refAck (w : World) : Calls Tryd.prog 41 #[] w (Ret fun v w' => ∃ e A' c', v = .slice A' 16 c' ∧ OwnSl e A' c' 5 (ackB.map u8) ∧ St w [] [e] w') := by
  refine enter (args := []) Tryd.func41 rfl rfl rfl ?_
  repeat (first | refine st ?_ | (refine sa ?_; intro _))
  apply VL_call; exact .none; exact rfl; exact rfl
  · intro w1 s; exact text w1 ackB (by decide)
  rintro w1 v w2 s ⟨e, A', c', rfl, ho, t⟩
  refine ⟨_, _, s.comp0 t, ?_⟩
  repeat (first | refine st ?_ | (refine sa ?_; intro _))
  exact VE_ret1 rfl rfl (fun w s => ⟨_, rfl, e, A', c', rfl, ho, s⟩)

theorem refDialRequest (w : World) (c : Cfg) (n : Int) (A : Option Addr) (ca : Nat) (l : List UInt8) (hA : Rd w A (l.map u8)) :
    Calls Tryd.prog 37 #[c.val, i64 n, .slice A l.length ca] w (Ret (Ans (dialReq c n l).1 (dialReq c n l).2 w)) := by
  refine enter (args := [_, _, _]) Tryd.func37 rfl rfl rfl ?_
  repeat (first | refine st ?_ | (refine sa ?_; intro _))
  apply VL_loadW (k := 0); (first | exact .none | exact .yes rfl rfl); exact rfl; exact rfl; exact rfl; exact rfl; exact rfl
  apply VL_call; exact .none; exact rfl; exact rfl
  · intro w1 s; exact refCheck w1 c
  rintro w1 v w2 s ⟨rfl, t⟩
  refine ⟨_, _, s.comp t, ?_⟩
  unfold dialReq
  by_cases hg : c.good
  rotate_left
  · rw [if_neg hg, if_neg hg]
    repeat (first | refine st ?_ | (refine sa ?_; intro _))
    exact VE_ret2 rfl rfl rfl (fun w s => ⟨_, rfl, Ans.none s⟩)
  rw [if_pos hg, if_pos hg]
  have hg' := hg
  unfold Cfg.good at hg'
  by_cases h0 : 0 ≤ n
  rotate_left
  · rw [if_neg (by omega)]
    repeat (first | refine st ?_ | (refine sa ?_; intro _))
    exact VE_ret2 rfl rfl rfl (fun w s => ⟨_, rfl, Ans.none s⟩)
  by_cases h1 : n < c.buckets
  rotate_left
  · rw [if_neg (by omega)]
    repeat (first | refine st ?_ | (refine sa ?_; intro _))
    exact VE_ret2 rfl rfl rfl (fun w s => ⟨_, rfl, Ans.none s⟩)
  rw [if_pos ⟨h0, h1⟩]
  by_cases h88 : l.length = 88
  rotate_left
  · rw [if_neg h88]
    repeat (first | refine st ?_ | (refine sa ?_; intro _))
    exact VE_ret2 rfl rfl rfl (fun w s => ⟨_, rfl, Ans.none s⟩)
  rw [if_pos h88]
  obtain ⟨m, rfl⟩ := Int.eq_ofNat_of_zero_le h0
  have hm4 : (UInt64.ofNat m).toNat = m := by rw [UInt64.toNat_ofNat', Nat.mod_eq_of_lt (by omega)]
  repeat (first | refine st ?_ | (refine sa ?_; intro _))
  apply VL_call; exact .none; exact rfl; exact rfl
  · intro w1 s; exact little w1 (UInt64.ofNat m) 4 (by omega)
  rintro w1 v w2 s ⟨e2, A2, c2, rfl, h2, t⟩
  refine ⟨_, _, s.comp0 t, ?_⟩
  rw [hm4] at h2
  repeat (first | refine st ?_ | (refine sa ?_; intro _))
  apply VL_call; exact .none; exact rfl; exact rfl
  · intro w1 s
    have q := two w1 A2 A c2 ca (le m 4) l (s.rdO (k := 1) rfl h2) (s.rd hA) (by rw [le_length]; omega)
    rw [le_length] at q; exact q
  rintro w1 v w2 s ⟨e3, A3, c3, rfl, h3, t⟩
  refine ⟨_, _, s.comp0 t, ?_⟩
  repeat (first | refine st ?_ | (refine sa ?_; intro _))
  exact VE_ret2 rfl rfl rfl (fun w s => ⟨_, rfl, e3, A3, c3, by simp, by simpa using h3, s.pick [2] (by decide)⟩)

theorem refParseDial (w : World) (c : Cfg) (A : Option Addr) (ca : Nat) (l : List UInt8) (hA : Rd w A (l.map u8)) (hca : l.length ≤ ca) :
    Calls Tryd.prog 39 #[c.val, .slice A l.length ca] w (Ret (AnsI (dialParsed c l).1 (dialParsed c l).2.1 (dialParsed c l).2.2 w)) := by
  refine enter (args := [_, _]) Tryd.func39 rfl rfl rfl ?_
  repeat (first | refine st ?_ | (refine sa ?_; intro _))
  rename_i cb
  apply VL_loadW (k := 0); (first | exact .none | exact .yes rfl rfl); exact rfl; exact rfl; exact rfl; exact rfl; exact rfl
  apply VL_call; exact .none; exact rfl; exact rfl
  · intro w1 s; exact refCheck w1 c
  rintro w1 v w2 s ⟨rfl, t⟩
  refine ⟨_, _, s.comp t, ?_⟩
  unfold dialParsed
  by_cases hg : c.good
  rotate_left
  · rw [if_neg hg, if_neg hg]
    repeat (first | refine st ?_ | (refine sa ?_; intro _))
    exact VE_ret3 rfl rfl rfl rfl (fun w s => ⟨_, rfl, AnsI.none s⟩)
  rw [if_pos hg, if_pos hg]
  have hg' := hg
  unfold Cfg.good at hg'
  by_cases h : (l.length : Int) = 92
  rotate_left
  · rw [if_neg h]
    repeat (first | refine st ?_ | (refine sa ?_; intro _))
    exact VE_ret3 rfl rfl rfl rfl (fun w s => ⟨_, rfl, AnsI.none s⟩)
  rw [if_pos h]
  have hl92 : l.length = 92 := by omega
  have hl4 : (l.take 4).length = 4 := by simp; omega
  have hm4 : ((l.take 4).map u8).length = 4 := by rw [List.length_map]; exact hl4
  have hsplit : Rd w A ((l.take 4).map u8 ++ (l.drop 4).map u8) := by rw [← List.map_append, List.take_append_drop]; exact hA
  have hnum : ∀ w1 H, St w [] H w1 → Calls Tryd.prog 73 #[.slice A 4 ca] w1 (Ret fun v w' => v = i64 (leN (l.take 4) : Int) ∧ St w1 [] [] w') := by
    intro w1 H s
    have q := numberRef w1 A ca (l.take 4) (s.rd hsplit.append) (by omega)
    rw [hl4] at q; exact q
  have hsp := hA.spot (by rw [List.length_map]; omega)
  repeat (first | refine st ?_ | (refine sa ?_; intro _))
  refine VC_draw (S := fun w' => St w [] [Blk cb c.cells 29] w') mixed (fun _ s => s) ?_
  refine tk 0 ?_
  refine tk (v := .slice A 4 ca) 1 ?_ (hS := fun w1 h1 => ⟨_, h1, Y_slice_hi rfl rfl rfl (by omega) hsp⟩)
  refine tk 3 ?_
  refine tk (v := i64 c.buckets) 4 ?_ (hS := fun w1 h1 => ⟨_, h1, Y_load rfl rfl (fun w2 s2 => s2.cell (k := 0) rfl rfl)⟩)
  apply VA_step 2; exact rfl; kernel_rfl
  apply VL_call; exact .none; exact rfl; exact rfl
  · intro w1 s; exact hnum w1 _ s
  rintro w1 v w2 s ⟨rfl, t⟩
  refine ⟨_, _, s.comp t, ?_⟩
  refine VL_nil (VA_back (fun w s => s) ?_)
  refine tk 5 ?_
  refine VA_done (by kernel_rfl) ?_
  by_cases hlt : (leN (l.take 4) : Int) < c.buckets
  rotate_left
  · rw [if_neg hlt]
    repeat (first | refine st ?_ | (refine sa ?_; intro _))
    exact VE_ret3 rfl rfl rfl rfl (fun w s => ⟨_, rfl, AnsI.none s⟩)
  rw [if_pos hlt]
  repeat (first | refine st ?_ | (refine sa ?_; intro _))
  refine VC_draw (S := fun w' => St w [] [] w') mixed (fun _ s => s.drop) ?_
  refine tk 0 ?_
  refine tk (v := .slice A 4 ca) 1 ?_ (hS := fun w1 h1 => ⟨_, h1, Y_slice_hi rfl rfl rfl (by omega) hsp⟩)
  refine tk 3 ?_
  refine tk 4 ?_ (hS := fun w1 h1 => ⟨_, h1, Y_slice_lo' (i' := 4) rfl rfl rfl (by omega)⟩)
  apply VA_step 2; exact rfl; kernel_rfl
  apply VL_call; exact .none; exact rfl; exact rfl
  · intro w1 s; exact hnum w1 _ s
  rintro w1 v w2 s ⟨rfl, t⟩
  refine ⟨_, _, s.comp t, ?_⟩
  refine VL_nil (VA_back (fun w s => s.drop) ?_)
  apply VA_step 5; exact rfl; kernel_rfl
  apply VL_call; exact .none; exact rfl; exact rfl
  · intro w1 s
    have q := copyBytes w1 _ (ca - 4) (l.drop 4) (s.rd (hsplit.split (c := ca) hm4 (by simp; omega))) (by simp; omega)
    rw [List.length_drop] at q
    exact q
  rintro w1 v w2 s ⟨e2, A2, c2, rfl, ho, t⟩
  refine ⟨_, _, s.comp0 t, VL_nil (VA_back (fun w s => s.drop) ?_)⟩
  refine tk 6 ?_
  refine tk 7 ?_
  refine tk 8 ?_
  refine VA_done (by kernel_rfl) ?_
  repeat (first | refine st ?_ | (refine sa ?_; intro _))
  exact VE_ret3 rfl rfl rfl rfl (fun w s => ⟨_, rfl, e2, A2, c2, by simp, ho, s.pick [1] (by decide)⟩)

theorem dialReq_le (c : Cfg) (n : Int) (l : List UInt8) : (dialReq c n l).1.length ≤ 1000 := by
  unfold dialReq
  split
  · split
    · split
      · simp [le_length]; omega
      · simp
    · simp
  · simp
theorem dialParsed_le (c : Cfg) (l : List UInt8) : (dialParsed c l).2.1.length ≤ 1000 := by
  unfold dialParsed
  split
  · split
    · split
      · simp; omega
      · simp
    · simp
  · simp
end Go.Proofs.YtpboahlpgfglkaaDoor.X
