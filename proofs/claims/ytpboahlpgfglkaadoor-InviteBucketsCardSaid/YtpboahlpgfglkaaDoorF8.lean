/-
  Contracts: numbers laid as bytes; lists joined.
-/
import Derived.Test.YtpboahlpgfglkaaDoorF3
namespace Go.Proofs.YtpboahlpgfglkaaDoor.X
open Go Go.RowKit
set_option linter.unusedVariables false
set_option linter.unusedSimpArgs false
set_option maxRecDepth 100000

/-- the n lowest bytes of a number, the lowest first -/
def le (v n : Nat) : List UInt8 := (List.range n).map fun i => UInt8.ofNat (v >>> (8 * i))
theorem le_length (v n : Nat) : (le v n).length = n := by simp [le]
theorem le_get (v n k : Nat) (h : k < n) : (le v n).getD k 0 = UInt8.ofNat (v >>> (8 * k)) := by simp [le, List.getD, h]
theorem le_get32 (x : UInt32) (n k : Nat) (h : k < n) (h4 : k < 4) : (x >>> UInt32.ofNat (8 * k)).toUInt8 = (le x.toNat n).getD k 0 := by
  rw [le_get _ _ _ h]
  apply UInt8.toNat_inj.1
  simp [UInt32.toNat_shiftRight, Nat.mod_eq_of_lt (show 8 * k < 4294967296 by omega), Nat.mod_eq_of_lt (show 8 * k < 32 by omega)]
theorem le_get64 (x : UInt64) (n k : Nat) (h : k < n) (h4 : k < 8) : (x >>> UInt64.ofNat (8 * k)).toUInt8 = (le x.toNat n).getD k 0 := by
  rw [le_get _ _ _ h]
  apply UInt8.toNat_inj.1
  simp [UInt64.toNat_shiftRight, Nat.mod_eq_of_lt (show 8 * k < 18446744073709551616 by omega), Nat.mod_eq_of_lt (show 8 * k < 64 by omega)]

theorem width32 (w : World) : Calls Tryd.prog 110 #[] w (Ret fun v w' => v = i64 4 ∧ St w [] [] w') := by
  refine enter (args := []) Tryd.func110 rfl rfl rfl ?_
  refine VC_seq ?_
  repeat (first | refine st ?_ | (refine sa ?_; intro _))
  apply VL_xor; exact .none; exact rfl; exact rfl; exact rfl
  repeat (first | refine st ?_ | (refine sa ?_; intro _))
  refine VC_loop ⟨fun k : Nat => k ≤ 4, fun k => [(1, u32 (UInt32.ofNat (4294967295 >>> (8 * k)))), (2, i64 (k : Int))], fun _ => [], fun _ => []⟩ (fun k => 4 - k) 0 (by simp) ⟨rfl, rfl, trivial⟩ (fun _ s => s) ?_
  rintro k hk
  dsimp only at hk ⊢
  repeat (first | refine st ?_ | (refine sa ?_; intro _))
  refine VC_cond_d rfl (fun h => ?_) (fun h => ?_)
  · have hk' : k < 4 := by
      rcases k with _ | _ | _ | _ | _ | k <;> first | omega | exact absurd rfl h
    repeat (first | refine st ?_ | (refine sa ?_; intro _))
    apply VL_bin; exact .none; exact rfl; exact rfl; exact b32_shr (c' := 7) rfl (by omega); exact rfl
    repeat (first | refine st ?_ | (refine sa ?_; intro _))
    apply VL_bin; exact .none; exact rfl; exact rfl; exact b32_shr (c' := 1) rfl (by omega); exact rfl
    repeat (first | refine st ?_ | (refine sa ?_; intro _))
    refine VE_fam (k + 1) (by (try dsimp only); omega) (by (try dsimp only); omega) ⟨?_, rfl, trivial⟩ (fun _ s => s)
    rcases k with _ | _ | _ | _ | k <;> first | rfl | omega
  · have hk' : k = 4 := by
      rcases k with _ | _ | _ | _ | _ | k <;> first | rfl | omega | exact absurd (by decide) h
    subst hk'
    repeat (first | refine st ?_ | (refine sa ?_; intro _))
    exact VE_ret1 rfl rfl (fun w s => ⟨_, rfl, rfl, s⟩)

theorem splice_zeros (l : List Value) (n : Nat) (h : n = l.length) : splice (List.replicate n (u8 0)) 0 (l.take n) = l := by
  subst h
  rw [List.take_length, splice_all (by simp)]

theorem putLittle32 (w : World) (A : Option Addr) (ca : Nat) (l : List UInt8) (x : UInt32) (hA : Rd w A (l.map u8)) (hl : l.length ≤ 140737488351232) :
    Calls Tryd.prog 101 #[.slice A l.length ca, u32 x] w (Ret fun v w' => ∃ e A' c', v = .slice A' (l.length + 4) c' ∧ OwnSl e A' c' 5 ((l ++ le x.toNat 4).map u8) ∧ St w [] [e] w') := by
  refine enter (args := [_, _]) Tryd.func101 rfl rfl rfl ?_
  repeat (first | refine st ?_ | (refine sa ?_; intro _))
  apply VL_call; exact .none; exact rfl; exact rfl
  · intro w1 s; exact width32 w1
  rintro w1 v w2 s ⟨rfl, t⟩
  refine ⟨_, _, s.comp t, ?_⟩
  repeat (first | refine st ?_ | (refine sa ?_; intro _))
  refine VL_makeSlice .none rfl rfl rfl (l' := l.length) (c' := l.length + 4) rfl (by omega) (by omega) (by omega) (by omega) rfl (fun e0 A0 h0 => ?_)
  repeat (first | refine st ?_ | (refine sa ?_; intro _))
  apply VL_copyO (p := 0) (news := l.map u8); exact .none; exact rfl; exact rfl; exact rfl; exact h0; (simp); (simp); exact fun w s => s.rd hA; exact all_u8 _; exact rfl
  intro e1 h1
  rw [splice_zeros _ _ (by simp)] at h1
  repeat (first | refine st ?_ | (refine sa ?_; intro _))
  refine VC_loop ⟨fun i : Nat × Ent × Option Addr × Nat => i.1 ≤ 4 ∧ OwnSl i.2.1 i.2.2.1 i.2.2.2 5 ((l ++ (le x.toNat 4).take i.1).map u8), fun i => [(1, u32 x), (6, .slice i.2.2.1 (l.length + i.1) i.2.2.2), (19, i64 4), (20, i64 (i.1 : Int))], fun _ => [], fun i => [i.2.1]⟩ (fun i => 4 - i.1) (0, e1, A0, l.length + 4) ⟨by simp, by simpa using h1⟩ ⟨rfl, rfl, rfl, rfl, trivial⟩ (fun _ s => s) ?_
  rintro ⟨k, e, A', c'⟩ ⟨hk, ho⟩
  dsimp only at hk ho ⊢
  have hlen : ((l ++ (le x.toNat 4).take k).map u8).length = l.length + k := by simp [le_length]; omega
  repeat (first | refine st ?_ | (refine sa ?_; intro _))
  refine VC_cond_d rfl (fun h => ?_) (fun h => ?_)
  · repeat (first | refine st ?_ | (refine sa ?_; intro _))
    apply VL_bin; exact .none; exact rfl; exact rfl; exact b32_shr (c' := 8 * k) (by omega) (by omega); exact rfl
    repeat (first | refine st ?_ | (refine sa ?_; intro _))
    apply VL_buildSlice1; exact .none; exact rfl; exact rfl; exact rfl; exact rfl; exact rfl; exact rfl; exact rfl
    intro b
    refine VL_append (vs := (l ++ (le x.toNat 4).take k).map u8) (news := [u8 (x >>> UInt32.ofNat (8 * k)).toUInt8]) (p := 0) (r := l.length + k + 1) .none rfl rfl rfl rfl ho hlen.symm (all_u8 _) rfl (fun w s => s.rdH (k := 1) rfl) rfl rfl (by rw [hlen]; rfl) (by omega) rfl (fun e2 A2 c2 h2 => ?_)
    repeat (first | refine st ?_ | (refine sa ?_; intro _))
    refine VE_fam (k + 1, e2, A2, c2) ⟨by (try dsimp only); omega, ?_⟩ (by (try dsimp only); omega) ⟨rfl, rfl, rfl, rfl, trivial⟩ (fun _ s => s.perm (by simp))
    dsimp only
    rw [take_snoc8 (by rw [le_length]; omega), ← List.append_assoc, List.map_append, ← le_get32 x 4 k (by omega) (by omega)]; exact h2
  · have hk' : k = 4 := by omega
    subst hk'
    rw [List.take_of_length_le (by rw [le_length]; omega)] at ho
    repeat (first | refine st ?_ | (refine sa ?_; intro _))
    exact VE_ret1 rfl rfl (fun w s => ⟨_, rfl, e, A', c', rfl, ho, s⟩)

theorem little (w : World) (x : UInt64) (n : Nat) (hn : n ≤ 8) :
    Calls Tryd.prog 66 #[u64 x, i64 (n : Int)] w (Ret fun v w' => ∃ e A' c', v = .slice A' n c' ∧ OwnSl e A' c' 5 ((le x.toNat n).map u8) ∧ St w [] [e] w') := by
  refine enter (args := [_, _]) Tryd.func66 rfl rfl rfl ?_
  repeat (first | refine st ?_ | (refine sa ?_; intro _))
  refine VC_loop ⟨fun i : Nat × Ent × Option Addr × Nat => i.1 ≤ n ∧ OwnSl i.2.1 i.2.2.1 i.2.2.2 5 (((le x.toNat n).take i.1).map u8), fun i => [(0, u64 x), (1, i64 (n : Int)), (5, .slice i.2.2.1 i.1 i.2.2.2), (6, i64 (i.1 : Int))], fun _ => [], fun i => [i.2.1]⟩ (fun i => n - i.1) (0, none, none, 0) ⟨by simp, OwnSl.nil _⟩ ⟨rfl, rfl, rfl, rfl, trivial⟩ (fun _ s => s.none) ?_
  rintro ⟨k, e, A', c'⟩ ⟨hk, ho⟩
  dsimp only at hk ho ⊢
  have hlen : (((le x.toNat n).take k).map u8).length = k := by simp [le_length]; omega
  repeat (first | refine st ?_ | (refine sa ?_; intro _))
  refine VC_cond_d rfl (fun h => ?_) (fun h => ?_)
  · repeat (first | refine st ?_ | (refine sa ?_; intro _))
    apply VL_bin; exact .none; exact rfl; exact rfl; exact b64_shr (c' := 8 * k) (by omega) (by omega); exact rfl
    repeat (first | refine st ?_ | (refine sa ?_; intro _))
    apply VL_buildSlice1; exact .none; exact rfl; exact rfl; exact rfl; exact rfl; exact rfl; exact rfl; exact rfl
    intro b
    refine VL_append (vs := ((le x.toNat n).take k).map u8) (news := [u8 (x >>> UInt64.ofNat (8 * k)).toUInt8]) (p := 0) (r := k + 1) .none rfl rfl rfl rfl ho hlen.symm (all_u8 _) rfl (fun w s => s.rdH (k := 1) rfl) rfl rfl (by rw [hlen]; rfl) (by omega) rfl (fun e2 A2 c2 h2 => ?_)
    repeat (first | refine st ?_ | (refine sa ?_; intro _))
    refine VE_fam (k + 1, e2, A2, c2) ⟨by (try dsimp only); omega, ?_⟩ (by (try dsimp only); omega) ⟨rfl, rfl, rfl, rfl, trivial⟩ (fun _ s => s.perm (by simp))
    dsimp only
    rw [take_snoc8 (by rw [le_length]; omega), List.map_append, ← le_get64 x n k (by omega) (by omega)]; exact h2
  · have hk' : k = n := by omega
    subst hk'
    rw [List.take_of_length_le (by rw [le_length]; omega)] at ho
    repeat (first | refine st ?_ | (refine sa ?_; intro _))
    exact VE_ret1 rfl rfl (fun w s => ⟨_, rfl, e, A', c', rfl, ho, s⟩)

theorem join (w : World) (A : Option Addr) (ca : Nat) (rows : List Row) (hA : RdRows w A rows) (hn : rows.length ≤ 140737488351232) (hl : (cat rows).length ≤ 140737488351232) :
    Calls Tryd.prog 67 #[.slice A rows.length ca] w (Ret fun v w' => ∃ e A' c', v = .slice A' (cat rows).length c' ∧ OwnSl e A' c' 5 ((cat rows).map u8) ∧ St w [] [e] w') := by
  have hA1 := hA.rd
  refine enter (args := [_]) Tryd.func67 rfl rfl rfl ?_
  repeat (first | refine st ?_ | (refine sa ?_; intro _))
  refine VC_loop ⟨fun i : Nat × Ent × Option Addr × Nat => i.1 ≤ rows.length ∧ OwnSl i.2.1 i.2.2.1 i.2.2.2 5 ((cat (rows.take i.1)).map u8), fun i => [(0, .slice A rows.length ca), (3, .slice i.2.2.1 (cat (rows.take i.1)).length i.2.2.2), (4, i64 (i.1 : Int))], fun _ => [], fun i => [i.2.1]⟩ (fun i => rows.length - i.1) (0, none, none, 0) ⟨by simp, OwnSl.nil _⟩ ⟨rfl, rfl, rfl, trivial⟩ (fun _ s => s.none) ?_
  rintro ⟨k, e, A', c'⟩ ⟨hk, ho⟩
  dsimp only at hk ho ⊢
  repeat (first | refine st ?_ | (refine sa ?_; intro _))
  refine VC_cond_d rfl (fun h => ?_) (fun h => ?_)
  · obtain ⟨r, hr⟩ : ∃ r, rows[k]? = some r := ⟨rows[k]'(by omega), List.getElem?_eq_getElem _⟩
    have hrl := hA.each r (List.mem_of_getElem? hr)
    have hle := cat_le hr
    repeat (first | refine st ?_ | (refine sa ?_; intro _))
    refine VC_loop ⟨fun i : Nat × Ent × Option Addr × Nat => i.1 ≤ r.l.length ∧ OwnSl i.2.1 i.2.2.1 i.2.2.2 5 ((cat (rows.take k) ++ r.l.take i.1).map u8), fun i => [(0, .slice A rows.length ca), (3, .slice i.2.2.1 ((cat (rows.take k)).length + i.1) i.2.2.2), (4, i64 (k : Int)), (5, i64 (i.1 : Int))], fun _ => [], fun i => [i.2.1]⟩ (fun i => r.l.length - i.1) (0, e, A', c') ⟨by simp, by simpa using ho⟩ ⟨rfl, rfl, rfl, rfl, trivial⟩ (fun _ s => s) ?_
    rintro ⟨j, e1, A1, c1⟩ ⟨hj, ho1⟩
    dsimp only at hj ho1 ⊢
    have hlen : ((cat (rows.take k) ++ r.l.take j).map u8).length = (cat (rows.take k)).length + j := by simp; omega
    repeat (first | refine st ?_ | (refine sa ?_; intro _))
    refine VC_cond_d rfl (fun h' => ?_) (fun h' => ?_)
    · have hj' : j < r.l.length := by simpa using h'
      repeat (first | refine st ?_ | (refine sa ?_; intro _))
      apply VL_buildSlice1; exact .none; exact rfl; exact rfl; exact rfl; exact rfl; exact rfl; exact rfl; exact rfl
      intro b
      refine VL_append (vs := (cat (rows.take k) ++ r.l.take j).map u8) (news := [u8 (r.l.getD j 0)]) (p := 0) (r := (cat (rows.take k)).length + j + 1) .none rfl rfl rfl rfl ho1 hlen.symm (all_u8 _) rfl (fun w s => s.rdH (k := 1) rfl) rfl rfl (by rw [hlen]; rfl) (by omega) rfl (fun e2 A2 c2 h2 => ?_)
      repeat (first | refine st ?_ | (refine sa ?_; intro _))
      refine VE_fam (j + 1, e2, A2, c2) ⟨by (try dsimp only); omega, ?_⟩ (by (try dsimp only); omega) ⟨rfl, rfl, rfl, rfl, trivial⟩ (fun _ s => s.perm (by simp))
      dsimp only
      rw [take_snoc8 hj', ← List.append_assoc, List.map_append]; exact h2
    · have hj' : j = r.l.length := by have : ¬ (j < r.l.length) := by simpa using h'
                                      omega
      subst hj'
      rw [List.take_length, ← cat_take hr] at ho1
      repeat (first | refine st ?_ | (refine sa ?_; intro _))
      have e9 : (cat (rows.take k)).length + r.l.length = (cat (rows.take (k + 1))).length := by rw [cat_take hr, List.length_append]
      rw [e9]
      exact VE_fam (k + 1, e1, A1, c1) ⟨by (try dsimp only); omega, ho1⟩ (by (try dsimp only); omega) ⟨rfl, rfl, rfl, trivial⟩ (fun _ s => s)
  · have hk' : k = rows.length := by omega
    subst hk'
    rw [List.take_length] at ho ⊢
    repeat (first | refine st ?_ | (refine sa ?_; intro _))
    exact VE_ret1 rfl rfl (fun w s => ⟨_, rfl, e, A', c', rfl, ho, s⟩)
end Go.Proofs.YtpboahlpgfglkaaDoor.X
