/-
  Contracts: the lowest eight bytes as a number; buckets, by the program and by the document; the statement InviteBuckets.
-/
import Derived.Test.YtpboahlpgfglkaaDoorF44
namespace Go.Proofs.YtpboahlpgfglkaaDoor.X
open Go Go.RowKit
set_option linter.unusedVariables false
set_option linter.unusedSimpArgs false
set_option maxRecDepth 100000

theorem leN_step64 (l : List UInt8) (k : Nat) (hk : k < l.length) (h8 : l.length ≤ 8) :
    UInt64.ofNat (leN (l.take k)) ||| (l.getD k 0).toUInt64 <<< UInt64.ofNat (8 * k) = UInt64.ofNat (leN (l.take (k + 1))) := by
  rw [take_snoc8 hk, leN_snoc]
  have hl : (l.take k).length = k := by simp; omega
  have hlt := leN_lt (l.take k)
  rw [hl] at hlt ⊢
  have hc := (l.getD k 0).toNat_lt
  have hp : 2 ^ (8 * k) * 256 ≤ 2 ^ 64 := by
    have : 2 ^ (8 * k) * 256 = 2 ^ (8 * k + 8) := by rw [Nat.pow_add]
    rw [this]; exact Nat.pow_le_pow_right (by omega) (by omega)
  have h1 : 2 ^ (8 * k) * (l.getD k 0).toNat ≤ 2 ^ (8 * k) * 255 := Nat.mul_le_mul_left _ (by omega)
  apply UInt64.toNat_inj.1
  rw [UInt64.toNat_or, UInt64.toNat_shiftLeft, UInt64.toNat_ofNat', UInt64.toNat_ofNat', UInt64.toNat_ofNat', UInt8.toNat_toUInt64, Nat.mod_eq_of_lt (show leN (l.take k) < 2 ^ 64 by omega),
    Nat.mod_eq_of_lt (show 8 * k < 2 ^ 64 by omega), Nat.mod_eq_of_lt (show 8 * k < 64 by omega), Nat.shiftLeft_eq, Nat.mul_comm (l.getD k 0).toNat, Nat.mod_eq_of_lt (show 2 ^ (8 * k) * (l.getD k 0).toNat < 2 ^ 64 by omega),
    Nat.mod_eq_of_lt (by omega), Nat.or_comm, ← Nat.two_pow_add_eq_or_of_lt hlt, Nat.add_comm]
set_option maxHeartbeats 8000000 in
theorem low64 (w : World) (A : Option Addr) (ca : Nat) (l : List UInt8) (hA : Rd w A (l.map u8)) (hl : l.length ≤ 8) :
    Calls Tryd.prog 85 #[.slice A l.length ca] w (Ret fun v w' => v = u64 (UInt64.ofNat (leN l)) ∧ St w [] [] w') := by
  refine enter (args := [_]) Tryd.func85 rfl rfl rfl ?_
  repeat (first | refine st ?_ | (refine sa ?_; intro _))
  refine VC_loop ⟨fun k : Nat => k ≤ l.length, fun k => [(3, u64 (UInt64.ofNat (leN (l.take k)))), (6, .slice A l.length ca), (7, i64 (l.length : Int)), (8, i64 (k : Int))], fun _ => [], fun _ => []⟩ (fun k => l.length - k) 0 (by simp) ⟨rfl, rfl, rfl, rfl, trivial⟩ (fun _ s => s) ?_
  rintro k hk
  dsimp only at hk ⊢
  by_cases hkl : k < l.length
  · have hst := leN_step64 l k hkl hl
    obtain ⟨x, hx⟩ : ∃ x, x = UInt64.ofNat (leN (l.take k)) := ⟨_, rfl⟩
    rw [← hx] at hst ⊢
    repeat (first | refine st ?_ | (refine sa ?_; intro _))
    apply VL_bin; exact .none; exact rfl; exact rfl; exact b64_shl (c' := 8 * k) (by omega) (by omega); exact rfl
    repeat (first | refine st ?_ | (refine sa ?_; intro _))
    rw [hst]
    exact VE_fam (k + 1) (by (try dsimp only); omega) (by (try dsimp only); omega) ⟨rfl, rfl, rfl, rfl, trivial⟩ (fun _ s => s)
  · have hk' : k = l.length := by omega
    subst hk'
    repeat (first | refine st ?_ | (refine sa ?_; intro _))
    rw [List.take_length]
    exact VE_ret1 rfl rfl (fun w s => ⟨_, rfl, rfl, s⟩)
theorem width64 (w : World) : Calls Tryd.prog 97 #[] w (Ret fun v w' => v = i64 8 ∧ St w [] [] w') := by
  refine enter (args := []) Tryd.func97 rfl rfl rfl ?_
  refine VC_seq ?_
  repeat (first | refine st ?_ | (refine sa ?_; intro _))
  apply VL_xor; exact .none; exact rfl; exact rfl; exact rfl
  repeat (first | refine st ?_ | (refine sa ?_; intro _))
  refine VC_loop ⟨fun k : Nat => k ≤ 8, fun k => [(1, u64 (UInt64.ofNat (18446744073709551615 >>> (8 * k)))), (2, i64 (k : Int))], fun _ => [], fun _ => []⟩ (fun k => 8 - k) 0 (by simp) ⟨rfl, rfl, trivial⟩ (fun _ s => s) ?_
  rintro k hk
  dsimp only at hk ⊢
  repeat (first | refine st ?_ | (refine sa ?_; intro _))
  refine VC_cond_d rfl (fun h => ?_) (fun h => ?_)
  · have hk' : k < 8 := by
      rcases k with _ | _ | _ | _ | _ | _ | _ | _ | _ | k <;> first | omega | exact absurd rfl h
    repeat (first | refine st ?_ | (refine sa ?_; intro _))
    apply VL_bin; exact .none; exact rfl; exact rfl; exact b64_shr (c' := 7) rfl (by omega); exact rfl
    repeat (first | refine st ?_ | (refine sa ?_; intro _))
    apply VL_bin; exact .none; exact rfl; exact rfl; exact b64_shr (c' := 1) rfl (by omega); exact rfl
    repeat (first | refine st ?_ | (refine sa ?_; intro _))
    refine VE_fam (k + 1) (by (try dsimp only); omega) (by (try dsimp only); omega) ⟨?_, rfl, trivial⟩ (fun _ s => s)
    rcases k with _ | _ | _ | _ | _ | _ | _ | _ | k <;> first | rfl | omega
  · have hk' : k = 8 := by
      rcases k with _ | _ | _ | _ | _ | _ | _ | _ | _ | k <;> first | rfl | omega | exact absurd (by decide) h
    subst hk'
    repeat (first | refine st ?_ | (refine sa ?_; intro _))
    exact VE_ret1 rfl rfl (fun w s => ⟨_, rfl, rfl, s⟩)
theorem fits64 (w : World) (A : Option Addr) (ca : Nat) :
    Calls Tryd.prog 84 #[.slice A 8 ca] w (Ret fun v w' => v = i64 0 ∧ St w [] [] w') := by
  refine enter (args := [_]) Tryd.func84 rfl rfl rfl ?_
  repeat (first | refine st ?_ | (refine sa ?_; intro _))
  apply VL_call; exact .none; exact rfl; exact rfl
  · intro w1 s; exact width64 w1
  rintro w1 v w2 s ⟨rfl, t⟩
  refine ⟨_, _, s.comp t, ?_⟩
  repeat (first | refine st ?_ | (refine sa ?_; intro _))
  exact VE_ret1 rfl rfl (fun w s => ⟨_, rfl, rfl, s⟩)
theorem little64 (w : World) (A : Option Addr) (ca : Nat) (l : List UInt8) (hA : Rd w A (l.map u8)) (hl : l.length = 8) :
    Calls Tryd.prog 59 #[.slice A 8 ca] w (Ret fun v w' => v = .tuple #[u64 (UInt64.ofNat (leN l)), i64 0] ∧ St w [] [] w') := by
  refine enter (args := [_]) Tryd.func59 rfl rfl rfl ?_
  repeat (first | refine st ?_ | (refine sa ?_; intro _))
  apply VL_call; exact .none; exact rfl; exact rfl
  · intro w1 s; exact fits64 w1 A ca
  rintro w1 v w2 s ⟨rfl, t⟩
  refine ⟨_, _, s.comp t, ?_⟩
  repeat (first | refine st ?_ | (refine sa ?_; intro _))
  apply VL_call; exact .none; exact rfl; exact rfl
  · intro w1 s
    have := low64 w1 A ca l (s.rd hA) (by omega)
    rw [hl] at this
    exact this
  rintro w1 v w2 s ⟨rfl, t⟩
  refine ⟨_, _, s.comp t, ?_⟩
  repeat (first | refine st ?_ | (refine sa ?_; intro _))
  exact VE_ret2 rfl rfl rfl (fun w s => ⟨_, rfl, rfl, s⟩)
theorem b64_rem {a b : UInt64} (hb : b.toNat ≠ 0) : binRes .rem .u64 (a.toNat : Int) .u64 (b.toNat : Int) = some (u64 (a % b)) := by
  have h1 : ((a.toNat : Int)).tmod (b.toNat : Int) = ((a % b).toNat : Int) := by
    rw [Int.tmod_eq_emod_of_nonneg (by omega), UInt64.toNat_mod]; rfl
  simp [binRes, h1]
  exact hb

/-- 'tryst bucket' -/
def tbB : List UInt8 := [116, 114, 121, 115, 116, 32, 98, 117, 99, 107, 101, 116]
def low8 (k : List UInt8) : List UInt8 := (sha (tbB ++ k)).take 8
theorem low8_length (k : List UInt8) : (low8 k).length = 8 := by simp [low8, sha_length]
def buck (k : List UInt8) (m : Nat) : Int := 1 + ((leN (low8 k) % m : Nat) : Int)

theorem bucket_bad (w : World) (k : List UInt8) (n : Int) (h : n < 2 ∨ 64 < n) :
    Calls Tryd.prog 13 #[.agg (k.map u8).toArray, i64 n] w (Ret fun v w' => v = .tuple #[i64 0, i64 201] ∧ St w [] [] w') := by
  refine enter (args := [_, _]) Tryd.func13 rfl rfl rfl ?_
  rcases Int.lt_or_le n 2 with h2 | h2
  · repeat (first | refine st ?_ | (refine sa ?_; intro _))
    exact VE_ret2 rfl rfl rfl (fun w s => ⟨_, rfl, rfl, s.drop⟩)
  · have h3 : 64 < n := by omega
    repeat (first | refine st ?_ | (refine sa ?_; intro _))
    exact VE_ret2 rfl rfl rfl (fun w s => ⟨_, rfl, rfl, s.drop⟩)
theorem refBucket_bad (w : World) (k : List UInt8) (n : Int) (h : n < 2 ∨ 64 < n) :
    Calls Tryd.prog 14 #[.agg (k.map u8).toArray, i64 n] w (Ret fun v w' => v = .tuple #[i64 0, i64 201] ∧ St w [] [] w') := by
  refine enter (args := [_, _]) Tryd.func14 rfl rfl rfl ?_
  rcases Int.lt_or_le n 2 with h2 | h2
  · repeat (first | refine st ?_ | (refine sa ?_; intro _))
    exact VE_ret2 rfl rfl rfl (fun w s => ⟨_, rfl, rfl, s.drop⟩)
  · have h3 : 64 < n := by omega
    repeat (first | refine st ?_ | (refine sa ?_; intro _))
    exact VE_ret2 rfl rfl rfl (fun w s => ⟨_, rfl, rfl, s.drop⟩)
theorem bucket_ok (w : World) (k : List UInt8) (m : Nat) (hk : k.length = 32) (h1 : 1 ≤ m) (h2 : m ≤ 63) (hF : At w 1 0 I0.cells) (hT : At w 2 0 (Kt.map u32)) :
    Calls Tryd.prog 13 #[.agg (k.map u8).toArray, i64 ((m : Int) + 1)] w (Ret fun v w' => v = .tuple #[i64 (buck k m), i64 0] ∧ St w [] [] w') := by
  refine enter (args := [_, _]) Tryd.func13 rfl rfl rfl ?_
  repeat (first | refine st ?_ | (refine sa ?_; intro _))
  rename_i kb
  apply VL_buildSlice1; exact .none; exact rfl; exact rfl; exact rfl; exact rfl; exact rfl; exact rfl; exact rfl
  intro tb
  apply VL_convMark (k := 1); exact .none; exact rfl; exact rfl; exact rfl
  apply VL_slice_arr (i' := 0) (j' := 32); exact .none; exact rfl; exact .inl ⟨rfl, rfl⟩; exact .inl ⟨rfl, rfl⟩; omega; omega; exact rfl
  intro off' hoff
  obtain rfl : off' = 0 := by omega
  apply VL_buildSlice1; exact .none; exact rfl; exact rfl; exact rfl; exact rfl; exact rfl; exact rfl; exact rfl
  intro rb
  apply VL_call; exact .none; exact rfl; exact rfl
  · intro w1 s
    exact sum2 w1 (some ⟨rb, 0, none⟩) 2 (some ⟨tb, 0, none⟩) (some ⟨kb, 0, none⟩) 12 32 tbB k rfl hk (s.rdH (k := 2) rfl) (s.rdH (k := 1) rfl) (s.rdH (k := 0) rfl) (s.at_ hF) (s.at_ hT)
  rintro w1 v w2 s ⟨rfl, t⟩
  refine ⟨_, _, s.comp t, ?_⟩
  have ho32 := sha_length (tbB ++ k)
  have hl8 := low8_length k
  have hlow : low8 k = (sha (tbB ++ k)).take 8 := rfl
  obtain ⟨o, hoo⟩ : ∃ o, o = sha (tbB ++ k) := ⟨_, rfl⟩
  rw [← hoo] at ho32 hlow ⊢
  repeat (first | refine st ?_ | (refine sa ?_; intro _))
  rename_i hb
  apply VL_storeW (k := 3) (vs := o.map u8); exact .none; exact rfl; exact rfl; exact rfl; (rw [List.length_map, ho32]); exact all_u8 _; exact rfl; exact rfl; exact NF.zero _
  repeat (first | refine st ?_ | (refine sa ?_; intro _))
  apply VL_slice_arr (i' := 0) (j' := 8); exact .none; exact rfl; exact .inl ⟨rfl, rfl⟩; exact .inr ⟨_, _, rfl, rfl⟩; omega; omega; exact rfl
  intro off' hoff
  obtain rfl : off' = 0 := by omega
  apply VL_call; exact .none; exact rfl; exact rfl
  · intro w1 s
    refine little64 w1 (some ⟨hb, 0, none⟩) 32 (low8 k) ?_ hl8
    have := s.rdH (k := 3) rfl
    rw [← List.take_append_drop 8 o, List.map_append] at this
    rw [hlow]; exact this.append
  rintro w1 v w2 s ⟨rfl, t⟩
  refine ⟨_, _, s.comp t, ?_⟩
  have hlt := leN_lt (low8 k)
  rw [hl8] at hlt
  have hbk : buck k m = 1 + ((leN (low8 k) % m : Nat) : Int) := rfl
  have hmod : leN (low8 k) % m < m := Nat.mod_lt _ (by omega)
  obtain ⟨x, hx⟩ : ∃ x, x = leN (low8 k) := ⟨_, rfl⟩
  rw [← hx] at hlt hbk hmod ⊢
  rw [hbk]
  have hmm : (UInt64.ofNat m).toNat = m := by rw [UInt64.toNat_ofNat', Nat.mod_eq_of_lt (by omega)]
  repeat (first | refine st ?_ | (refine sa ?_; intro _))
  apply VL_convert; exact .none; exact rfl; exact (show IntKind.u64.wrap ((m : Int) + 1 - 1) = ((UInt64.ofNat m).toNat : Int) by rw [show (m : Int) + 1 - 1 = (m : Int) by omega]; exact wrap_u64_of m); exact rfl
  apply VL_bin; exact .none; exact rfl; exact rfl; exact b64_rem (by omega); exact rfl
  apply VL_convert; exact .none; exact rfl; exact (show IntKind.i64.wrap ((UInt64.ofNat x % UInt64.ofNat m).toNat : Int) = ((x % m : Nat) : Int) by
    rw [UInt64.toNat_mod, hmm, UInt64.toNat_ofNat', Nat.mod_eq_of_lt hlt]; exact wrap_in (by omega) (by omega)); exact rfl
  repeat (first | refine st ?_ | (refine sa ?_; intro _))
  exact VE_ret2 rfl rfl rfl (fun w s => ⟨_, rfl, rfl, s.drop⟩)

theorem keyBytes (w : World) (k : List UInt8) (hk : k.length = 32) :
    Calls Tryd.prog 62 #[.agg (k.map u8).toArray] w (Ret fun v w' => ∃ e A' c', v = .slice A' k.length c' ∧ OwnSl e A' c' 5 (k.map u8) ∧ St w [] [e] w') := by
  refine enter (args := [_]) Tryd.func62 rfl rfl rfl ?_
  repeat (first | refine st ?_ | (refine sa ?_; intro _))
  rename_i kb
  refine VC_loop ⟨fun i : Nat × Ent × Option Addr × Nat => i.1 ≤ 32 ∧ OwnSl i.2.1 i.2.2.1 i.2.2.2 5 ((k.take i.1).map u8), fun i => [(1, .pointer (some ⟨kb, 0, none⟩)), (3, .slice i.2.2.1 i.1 i.2.2.2), (4, i64 (i.1 : Int))], fun _ => [], fun i => [Blk kb (k.map u8) 23, i.2.1]⟩ (fun i => 32 - i.1) (0, none, none, 0) ⟨by simp, OwnSl.nil _⟩ ⟨rfl, rfl, rfl, trivial⟩ (fun _ s => s.none) ?_
  rintro ⟨i, e, A', c'⟩ ⟨hi, ho⟩
  dsimp only at hi ho ⊢
  have hlen : ((k.take i).map u8).length = i := by simp; omega
  by_cases hkn : i < 32
  · repeat (first | refine st ?_ | (refine sa ?_; intro _))
    apply VL_buildSlice1; exact .none; exact rfl; exact rfl; exact rfl; exact rfl; exact rfl; exact rfl; exact rfl
    intro b
    refine VL_append (vs := (k.take i).map u8) (news := [u8 (k.getD i 0)]) (p := 1) (r := i + 1) .none rfl rfl rfl rfl ho hlen.symm (all_u8 _) rfl (fun w s => s.rdH (k := 2) rfl) rfl rfl (by rw [hlen]; rfl) (by omega) rfl (fun e2 A2 c2 h2 => ?_)
    repeat (first | refine st ?_ | (refine sa ?_; intro _))
    refine VE_fam (i + 1, e2, A2, c2) ⟨by (try dsimp only); omega, ?_⟩ (by (try dsimp only); omega) ⟨rfl, rfl, rfl, trivial⟩ (fun _ s => s.pick [0, 1] (by decide))
    rw [take_snoc8 (by omega), List.map_append]; exact h2
  · have hi' : i = 32 := by omega
    subst hi'
    rw [List.take_of_length_le (by omega)] at ho
    repeat (first | refine st ?_ | (refine sa ?_; intro _))
    exact VE_ret1 rfl rfl (fun w s => ⟨_, rfl, e, A', c', by rw [hk], ho, s.pick [1] (by decide)⟩)
theorem horner (x c m : Nat) : (256 * ((x % m : Nat) : Int) + (c : Int)) % (m : Int) = (((c + 256 * x) % m : Nat) : Int) := by
  rw [show 256 * ((x % m : Nat) : Int) + (c : Int) = ((256 * (x % m) + c : Nat) : Int) by omega, ← Int.natCast_emod]
  congr 1
  rw [Nat.add_comm c, Nat.add_mod (256 * (x % m)), Nat.mul_mod 256 (x % m), Nat.mod_mod, ← Nat.mul_mod, ← Nat.add_mod]
theorem refBucket_ok (w : World) (k : List UInt8) (m : Nat) (hk : k.length = 32) (h1 : 1 ≤ m) (h2 : m ≤ 63) :
    Calls Tryd.prog 14 #[.agg (k.map u8).toArray, i64 ((m : Int) + 1)] w (Ret fun v w' => v = .tuple #[i64 (buck k m), i64 0] ∧ St w [] [] w') := by
  refine enter (args := [_, _]) Tryd.func14 rfl rfl rfl ?_
  repeat (first | refine st ?_ | (refine sa ?_; intro _))
  rename_i kb
  refine VC_cut ⟨fun _ : Nat => True, fun xb => [(1, i64 ((m : Int) + 1)), (6, .pointer (some ⟨xb, 0, none⟩))], fun _ => [], fun xb => [Blk xb ((sha (tbB ++ k)).map u8) 74]⟩ ?_ ?_
  · refine VC_draw (S := fun w' => ∃ c : Unit, St w [] [Blk kb (k.map u8) 23] w') mixed (fun _ s => ⟨(), s⟩) ?_
    have h44 : (tbB ++ k).length = 44 := by rw [List.length_append, hk]; rfl
    have hs32 := sha_length (tbB ++ k)
    refine tkm 1 ?_ (hS := by intro w1 h1; obtain ⟨c1, h1⟩ := h1; refine ⟨_, _, h1, ?_⟩; apply Y_loadW (k := 0); exact rfl; exact rfl; exact rfl; (rw [List.length_map, hk]))
    apply VA_two 0 5; exact rfl; exact rfl; kernel_rfl
    · skip
      apply VL_call; exact .none; exact rfl; exact rfl
      · intro w1 s; exact text w1 tbB (by decide)
      rintro w1 v w2 s ⟨e1, A1, c1, rfl, ho1, t⟩
      refine ⟨_, _, s.comp0 t, ?_⟩
      refine VL_nil (VA_back (fun w s => ⟨(), s.pick [0] (by decide)⟩) ?_)
      apply VA_two 2 5; exact rfl; exact rfl; kernel_rfl
      · skip
        apply VL_call; exact .none; exact rfl; exact rfl
        · intro w1 s; exact keyBytes w1 k hk
        rintro w1 v w2 s ⟨e2, A2, c2, rfl, ho2, t⟩
        refine ⟨_, _, s.comp0 t, ?_⟩
        refine VL_nil (VA_back (fun w s => ⟨(), s.pick [0] (by decide)⟩) ?_)
        apply VA_two 3 5; exact rfl; exact rfl; kernel_rfl
        · skip
          apply VL_call; exact .none; exact rfl; exact rfl
          · intro w1 s; exact two w1 A1 A2 c1 c2 tbB k (s.rdO (k := 1) rfl ho1) (s.rdO (k := 2) rfl ho2) (by rw [hk]; decide)
          rintro w1 v w2 s ⟨e3, A3, c3, rfl, ho3, t⟩
          refine ⟨_, _, s.comp0 t, ?_⟩
          refine VL_nil (VA_back (fun w s => ⟨(), s.pick [0] (by decide)⟩) ?_)
          apply VA_two 4 5; exact rfl; exact rfl; kernel_rfl
          · skip
            apply VL_call; exact .none; exact rfl; exact rfl
            · intro w1 s; exact refSum w1 A3 c3 (tbB ++ k) h44 (s.rdO (k := 3) rfl ho3)
            rintro w1 v w2 s ⟨rfl, t⟩
            refine ⟨_, _, s.comp t, ?_⟩
            refine VL_nil (VA_back (fun w s => ⟨(), s.pick [0] (by decide)⟩) ?_)
            apply VA_step 5; exact rfl; kernel_rfl
            apply VL_alloc; exact .none; exact rfl; exact rfl
            intro xb
            refine VL_nil (VA_back (fun w s => ⟨(), s.pick [0] (by decide)⟩) ?_)
            apply VA_step 6; exact rfl; kernel_rfl
            apply VL_storeW (k := 4) (vs := (sha (tbB ++ k)).map u8); exact .none; exact rfl; exact rfl; exact rfl; (rw [List.length_map, hs32]); exact all_u8 _; exact rfl; exact rfl; exact NF.zero _
            refine VL_nil (VA_back (fun w s => ⟨(), s.pick [0] (by decide)⟩) ?_)
            refine VA_done (by kernel_rfl) ?_
            repeat (first | refine st ?_ | (refine sa ?_; intro _))
            exact VE_fam _ trivial trivial ⟨rfl, rfl, trivial⟩ (fun _ s => s.pick [4] (by decide))
          · apply VL_alloc; exact .none; exact rfl; exact rfl
            intro xb
            refine VL_nil (VA_back (fun w s => ⟨(), s.pick [0] (by decide)⟩) ?_)
            apply VA_step 4; exact rfl; kernel_rfl
            apply VL_call; exact .none; exact rfl; exact rfl
            · intro w1 s; exact refSum w1 A3 c3 (tbB ++ k) h44 (s.rdO (k := 3) rfl ho3)
            rintro w1 v w2 s ⟨rfl, t⟩
            refine ⟨_, _, s.comp t, ?_⟩
            refine VL_nil (VA_back (fun w s => ⟨(), s.pick [0] (by decide)⟩) ?_)
            apply VA_step 6; exact rfl; kernel_rfl
            apply VL_storeW (k := 4) (vs := (sha (tbB ++ k)).map u8); exact .none; exact rfl; exact rfl; exact rfl; (rw [List.length_map, hs32]); exact all_u8 _; exact rfl; exact rfl; exact NF.zero _
            refine VL_nil (VA_back (fun w s => ⟨(), s.pick [0] (by decide)⟩) ?_)
            refine VA_done (by kernel_rfl) ?_
            repeat (first | refine st ?_ | (refine sa ?_; intro _))
            exact VE_fam _ trivial trivial ⟨rfl, rfl, trivial⟩ (fun _ s => s.pick [4] (by decide))
        · apply VL_alloc; exact .none; exact rfl; exact rfl
          intro xb
          refine VL_nil (VA_back (fun w s => ⟨(), s.pick [0] (by decide)⟩) ?_)
          apply VA_step 3; exact rfl; kernel_rfl
          apply VL_call; exact .none; exact rfl; exact rfl
          · intro w1 s; exact two w1 A1 A2 c1 c2 tbB k (s.rdO (k := 1) rfl ho1) (s.rdO (k := 2) rfl ho2) (by rw [hk]; decide)
          rintro w1 v w2 s ⟨e3, A3, c3, rfl, ho3, t⟩
          refine ⟨_, _, s.comp0 t, ?_⟩
          refine VL_nil (VA_back (fun w s => ⟨(), s.pick [0] (by decide)⟩) ?_)
          apply VA_step 4; exact rfl; kernel_rfl
          apply VL_call; exact .none; exact rfl; exact rfl
          · intro w1 s; exact refSum w1 A3 c3 (tbB ++ k) h44 (s.rdO (k := 4) rfl ho3)
          rintro w1 v w2 s ⟨rfl, t⟩
          refine ⟨_, _, s.comp t, ?_⟩
          refine VL_nil (VA_back (fun w s => ⟨(), s.pick [0] (by decide)⟩) ?_)
          apply VA_step 6; exact rfl; kernel_rfl
          apply VL_storeW (k := 3) (vs := (sha (tbB ++ k)).map u8); exact .none; exact rfl; exact rfl; exact rfl; (rw [List.length_map, hs32]); exact all_u8 _; exact rfl; exact rfl; exact NF.zero _
          refine VL_nil (VA_back (fun w s => ⟨(), s.pick [0] (by decide)⟩) ?_)
          refine VA_done (by kernel_rfl) ?_
          repeat (first | refine st ?_ | (refine sa ?_; intro _))
          exact VE_fam _ trivial trivial ⟨rfl, rfl, trivial⟩ (fun _ s => s.pick [3] (by decide))
      · apply VL_alloc; exact .none; exact rfl; exact rfl
        intro xb
        refine VL_nil (VA_back (fun w s => ⟨(), s.pick [0] (by decide)⟩) ?_)
        apply VA_step 2; exact rfl; kernel_rfl
        apply VL_call; exact .none; exact rfl; exact rfl
        · intro w1 s; exact keyBytes w1 k hk
        rintro w1 v w2 s ⟨e2, A2, c2, rfl, ho2, t⟩
        refine ⟨_, _, s.comp0 t, ?_⟩
        refine VL_nil (VA_back (fun w s => ⟨(), s.pick [0] (by decide)⟩) ?_)
        apply VA_step 3; exact rfl; kernel_rfl
        apply VL_call; exact .none; exact rfl; exact rfl
        · intro w1 s; exact two w1 A1 A2 c1 c2 tbB k (s.rdO (k := 1) rfl ho1) (s.rdO (k := 3) rfl ho2) (by rw [hk]; decide)
        rintro w1 v w2 s ⟨e3, A3, c3, rfl, ho3, t⟩
        refine ⟨_, _, s.comp0 t, ?_⟩
        refine VL_nil (VA_back (fun w s => ⟨(), s.pick [0] (by decide)⟩) ?_)
        apply VA_step 4; exact rfl; kernel_rfl
        apply VL_call; exact .none; exact rfl; exact rfl
        · intro w1 s; exact refSum w1 A3 c3 (tbB ++ k) h44 (s.rdO (k := 4) rfl ho3)
        rintro w1 v w2 s ⟨rfl, t⟩
        refine ⟨_, _, s.comp t, ?_⟩
        refine VL_nil (VA_back (fun w s => ⟨(), s.pick [0] (by decide)⟩) ?_)
        apply VA_step 6; exact rfl; kernel_rfl
        apply VL_storeW (k := 2) (vs := (sha (tbB ++ k)).map u8); exact .none; exact rfl; exact rfl; exact rfl; (rw [List.length_map, hs32]); exact all_u8 _; exact rfl; exact rfl; exact NF.zero _
        refine VL_nil (VA_back (fun w s => ⟨(), s.pick [0] (by decide)⟩) ?_)
        refine VA_done (by kernel_rfl) ?_
        repeat (first | refine st ?_ | (refine sa ?_; intro _))
        exact VE_fam _ trivial trivial ⟨rfl, rfl, trivial⟩ (fun _ s => s.pick [2] (by decide))
    · apply VL_alloc; exact .none; exact rfl; exact rfl
      intro xb
      refine VL_nil (VA_back (fun w s => ⟨(), s.pick [0] (by decide)⟩) ?_)
      apply VA_step 0; exact rfl; kernel_rfl
      apply VL_call; exact .none; exact rfl; exact rfl
      · intro w1 s; exact text w1 tbB (by decide)
      rintro w1 v w2 s ⟨e1, A1, c1, rfl, ho1, t⟩
      refine ⟨_, _, s.comp0 t, ?_⟩
      refine VL_nil (VA_back (fun w s => ⟨(), s.pick [0] (by decide)⟩) ?_)
      apply VA_step 2; exact rfl; kernel_rfl
      apply VL_call; exact .none; exact rfl; exact rfl
      · intro w1 s; exact keyBytes w1 k hk
      rintro w1 v w2 s ⟨e2, A2, c2, rfl, ho2, t⟩
      refine ⟨_, _, s.comp0 t, ?_⟩
      refine VL_nil (VA_back (fun w s => ⟨(), s.pick [0] (by decide)⟩) ?_)
      apply VA_step 3; exact rfl; kernel_rfl
      apply VL_call; exact .none; exact rfl; exact rfl
      · intro w1 s; exact two w1 A1 A2 c1 c2 tbB k (s.rdO (k := 2) rfl ho1) (s.rdO (k := 3) rfl ho2) (by rw [hk]; decide)
      rintro w1 v w2 s ⟨e3, A3, c3, rfl, ho3, t⟩
      refine ⟨_, _, s.comp0 t, ?_⟩
      refine VL_nil (VA_back (fun w s => ⟨(), s.pick [0] (by decide)⟩) ?_)
      apply VA_step 4; exact rfl; kernel_rfl
      apply VL_call; exact .none; exact rfl; exact rfl
      · intro w1 s; exact refSum w1 A3 c3 (tbB ++ k) h44 (s.rdO (k := 4) rfl ho3)
      rintro w1 v w2 s ⟨rfl, t⟩
      refine ⟨_, _, s.comp t, ?_⟩
      refine VL_nil (VA_back (fun w s => ⟨(), s.pick [0] (by decide)⟩) ?_)
      apply VA_step 6; exact rfl; kernel_rfl
      apply VL_storeW (k := 1) (vs := (sha (tbB ++ k)).map u8); exact .none; exact rfl; exact rfl; exact rfl; (rw [List.length_map, hs32]); exact all_u8 _; exact rfl; exact rfl; exact NF.zero _
      refine VL_nil (VA_back (fun w s => ⟨(), s.pick [0] (by decide)⟩) ?_)
      refine VA_done (by kernel_rfl) ?_
      repeat (first | refine st ?_ | (refine sa ?_; intro _))
      exact VE_fam _ trivial trivial ⟨rfl, rfl, trivial⟩ (fun _ s => s.pick [1] (by decide))
  intro xb _
  dsimp only
  have ho32 := sha_length (tbB ++ k)
  have hl8 := low8_length k
  have hbk : buck k m = 1 + ((leN (low8 k) % m : Nat) : Int) := rfl
  have hlow : low8 k = (sha (tbB ++ k)).take 8 := rfl
  obtain ⟨o, hoo⟩ : ∃ o, o = sha (tbB ++ k) := ⟨_, rfl⟩
  obtain ⟨p, hp⟩ : ∃ p, p = low8 k := ⟨_, rfl⟩
  rw [← hoo] at ho32 hlow ⊢
  rw [hbk]
  rw [← hp] at hl8 hlow ⊢
  repeat (first | refine st ?_ | (refine sa ?_; intro _))
  refine VC_loop ⟨fun i : Nat => i ≤ 8, fun i => [(1, i64 ((m : Int) + 1)), (6, .pointer (some ⟨xb, 0, none⟩)), (7, i64 ((leN (p.drop (8 - i)) % m : Nat) : Int)), (8, i64 (7 - (i : Int)))], fun _ => [], fun _ => [Blk xb (o.map u8) 74]⟩ (fun i => 8 - i) 0 (by simp) ⟨rfl, rfl, by rw [Nat.sub_zero, List.drop_of_length_le (by omega)]; rfl, rfl, trivial⟩ (fun _ s => s) ?_
  intro i hi
  dsimp only at hi ⊢
  by_cases h8 : i < 8
  · have hd : p.drop (8 - (i + 1)) = o.getD (7 - i) 0 :: p.drop (8 - i) := by
      rw [List.drop_eq_getElem_cons (by omega), show 8 - (i + 1) + 1 = 8 - i by omega]
      congr 1
      simp only [hlow, List.getElem_take, List.getD_eq_getElem?_getD]
      rw [List.getElem?_eq_getElem (by omega)]
      simp only [show 8 - (i + 1) = 7 - i by omega]
      rfl
    have hix : (7 - (i : Int)).toNat = 7 - i := by omega
    have hmod : leN (p.drop (8 - i)) % m < m := Nat.mod_lt _ (by omega)
    have hc := (o.getD (7 - (i : Int)).toNat 0).toNat_lt
    repeat (first | refine st ?_ | (refine sa ?_; intro _))
    refine VE_fam (i + 1) (by (try dsimp only); omega) (by (try dsimp only); omega) ⟨rfl, rfl, ?_, by rw [show (7 : Int) - ((i + 1 : Nat) : Int) = 7 - (i : Int) - 1 by omega]; rfl, trivial⟩ (fun _ s => s)
    have e : (256 * ((leN (p.drop (8 - i)) % m : Nat) : Int) + ((o.getD (7 - (i : Int)).toNat 0).toNat : Int)) % ((m : Int) + 1 - 1) = ((leN (p.drop (8 - (i + 1))) % m : Nat) : Int) := by
      rw [show (m : Int) + 1 - 1 = (m : Int) by omega, horner, hd, leN, hix]
    rw [← e]
    rfl
  have h8' : i = 8 := by omega
  subst h8'
  rw [Nat.sub_self, List.drop_zero]
  have hmod : leN p % m < m := Nat.mod_lt _ (by omega)
  repeat (first | refine st ?_ | (refine sa ?_; intro _))
  exact VE_ret2 rfl rfl rfl (fun w s => ⟨_, rfl, rfl, s.drop⟩)

theorem inviteBuckets (w : World) (k : List UInt8) (n : Int) (hk : k.length = 32) (hF : At w 1 0 I0.cells) (hT : At w 2 0 (Kt.map u32)) :
    Calls Tryd.prog 3 #[.agg (k.map u8).toArray, i64 n] w (Ret fun v w' => v = .bool true ∧ St w [] [] w') := by
  have b2 : buck k 1 = 1 := by simp [buck, Nat.mod_one]
  refine enter (args := [_, _]) Tryd.func3 rfl rfl rfl ?_
  repeat (first | refine st ?_ | (refine sa ?_; intro _))
  rename_i kb
  apply VL_loadW (k := 0); exact .none; exact rfl; exact rfl; exact rfl; (rw [List.length_map, hk]); exact rfl
  repeat (first | refine st ?_ | (refine sa ?_; intro _))
  by_cases hg : 2 ≤ n ∧ n ≤ 64
  · obtain ⟨m, rfl⟩ : ∃ m : Nat, n = (m : Int) + 1 := ⟨(n - 1).toNat, by omega⟩
    have hb1 : 1 ≤ buck k m := by unfold buck; omega
    have hb2 : buck k m < (m : Int) + 1 := by
      have : leN (low8 k) % m < m := Nat.mod_lt _ (by omega)
      unfold buck; omega
    apply VL_call; exact .none; exact rfl; exact rfl
    · intro w1 s; exact bucket_ok w1 k m hk (by omega) (by omega) (s.at_ hF) (s.at_ hT)
    rintro w1 v w2 s ⟨rfl, t⟩
    refine ⟨_, _, s.comp t, ?_⟩
    repeat (first | refine st ?_ | (refine sa ?_; intro _))
    apply VL_loadW (k := 0); exact .none; exact rfl; exact rfl; exact rfl; (rw [List.length_map, hk]); exact rfl
    repeat (first | refine st ?_ | (refine sa ?_; intro _))
    apply VL_call; exact .none; exact rfl; exact rfl
    · intro w1 s; exact refBucket_ok w1 k m hk (by omega) (by omega)
    rintro w1 v w2 s ⟨rfl, t⟩
    refine ⟨_, _, s.comp t, ?_⟩
    obtain ⟨b, hb⟩ : ∃ b, b = buck k m := ⟨_, rfl⟩
    rw [← hb] at hb1 hb2 ⊢
    repeat (first | refine st ?_ | (refine sa ?_; intro _))
    apply VL_loadW (k := 0); exact .none; exact rfl; exact rfl; exact rfl; (rw [List.length_map, hk]); exact rfl
    repeat (first | refine st ?_ | (refine sa ?_; intro _))
    apply VL_call; exact .none; exact rfl; exact rfl
    · intro w1 s
      have := bucket_ok w1 k 1 hk (by omega) (by omega) (s.at_ hF) (s.at_ hT)
      rw [b2] at this
      exact this
    rintro w1 v w2 s ⟨rfl, t⟩
    refine ⟨_, _, s.comp t, ?_⟩
    repeat (first | refine st ?_ | (refine sa ?_; intro _))
    refine VE_ret1 rfl rfl (fun w s => ⟨_, rfl, ?_, s.drop⟩)
    simp
  · have hg' : n < 2 ∨ 64 < n := by omega
    apply VL_call; exact .none; exact rfl; exact rfl
    · intro w1 s; exact bucket_bad w1 k n hg'
    rintro w1 v w2 s ⟨rfl, t⟩
    refine ⟨_, _, s.comp t, ?_⟩
    repeat (first | refine st ?_ | (refine sa ?_; intro _))
    apply VL_loadW (k := 0); exact .none; exact rfl; exact rfl; exact rfl; (rw [List.length_map, hk]); exact rfl
    repeat (first | refine st ?_ | (refine sa ?_; intro _))
    apply VL_call; exact .none; exact rfl; exact rfl
    · intro w1 s; exact refBucket_bad w1 k n hg'
    rintro w1 v w2 s ⟨rfl, t⟩
    refine ⟨_, _, s.comp t, ?_⟩
    repeat (first | refine st ?_ | (refine sa ?_; intro _))
    apply VL_loadW (k := 0); exact .none; exact rfl; exact rfl; exact rfl; (rw [List.length_map, hk]); exact rfl
    repeat (first | refine st ?_ | (refine sa ?_; intro _))
    apply VL_call; exact .none; exact rfl; exact rfl
    · intro w1 s
      have := bucket_ok w1 k 1 hk (by omega) (by omega) (s.at_ hF) (s.at_ hT)
      rw [b2] at this
      exact this
    rintro w1 v w2 s ⟨rfl, t⟩
    refine ⟨_, _, s.comp t, ?_⟩
    repeat (first | refine st ?_ | (refine sa ?_; intro _))
    refine VE_ret1 rfl rfl (fun w s => ⟨_, rfl, ?_, s.drop⟩)
    simp
end Go.Proofs.YtpboahlpgfglkaaDoor.X
