/-
  SHA-256 of 44 bytes: the document's filling up, and its sum.
-/
import Derived.Test.YtpboahlpgfglkaaDoorF42
namespace Go.Proofs.YtpboahlpgfglkaaDoor.X
open Go Go.RowKit
set_option linter.unusedVariables false
set_option linter.unusedSimpArgs false
set_option maxRecDepth 100000

/-- the eight bytes of the length in bits of 44 bytes, the highest first -/
def be8 : List UInt8 := [0, 0, 0, 0, 0, 0, 1, 96]
def padded (l : List UInt8) : List UInt8 := l ++ ([128] ++ List.replicate 11 0 ++ be8)
theorem padded_length {l : List UInt8} (h : l.length = 44) : (padded l).length = 64 := by simp [padded, h, be8]
theorem be8_get (k : Nat) (h : k < 8) : ((8 * UInt64.ofNat 44) >>> UInt64.ofNat (8 * (7 - k))).toUInt8 = be8.getD k 0 := by
  rcases k with _ | _ | _ | _ | _ | _ | _ | _ | k <;> first | rfl | omega

set_option maxHeartbeats 10000000 in
theorem refPadded (w : World) (A : Option Addr) (ca : Nat) (l : List UInt8) (hl : l.length = 44) (hA : Rd w A (l.map u8)) :
    Calls Tryd.prog 86 #[.slice A l.length ca] w (Ret fun v w' => ∃ e A' c', v = .slice A' 64 c' ∧ OwnSl e A' c' 5 ((padded l).map u8) ∧ St w [] [e] w') := by
  refine enter (args := [_]) Tryd.func86 rfl rfl rfl ?_
  repeat (first | refine st ?_ | (refine sa ?_; intro _))
  refine VC_loop ⟨fun i : Nat × Ent × Option Addr × Nat => i.1 ≤ 44 ∧ OwnSl i.2.1 i.2.2.1 i.2.2.2 5 ((l.take i.1).map u8), fun i => [(0, .slice A l.length ca), (3, .slice i.2.2.1 i.1 i.2.2.2), (4, i64 (i.1 : Int))], fun _ => [], fun i => [i.2.1]⟩ (fun i => 44 - i.1) (0, none, none, 0) ⟨by simp, OwnSl.nil _⟩ ⟨rfl, rfl, rfl, trivial⟩ (fun _ s => s.none) ?_
  rintro ⟨k, e, A', c'⟩ ⟨hk, ho⟩
  dsimp only at hk ho ⊢
  by_cases hkn : k < 44
  · have hlen : ((l.take k).map u8).length = k := by simp; omega
    repeat (first | refine st ?_ | (refine sa ?_; intro _))
    apply VL_buildSlice1; exact .none; exact rfl; exact rfl; exact rfl; exact rfl; exact rfl; exact rfl; exact rfl
    intro b
    refine VL_append (vs := (l.take k).map u8) (news := [u8 (l.getD k 0)]) (p := 0) (r := k + 1) .none rfl rfl rfl rfl ho hlen.symm (all_u8 _) rfl (fun w s => s.rdH (k := 1) rfl) rfl rfl (by rw [hlen]; rfl) (by omega) rfl (fun e2 A2 c2 h2 => ?_)
    repeat (first | refine st ?_ | (refine sa ?_; intro _))
    refine VE_fam (k + 1, e2, A2, c2) ⟨by (try dsimp only); omega, ?_⟩ (by (try dsimp only); omega) ⟨rfl, rfl, rfl, trivial⟩ (fun _ s => s.pick [0] (by decide))
    rw [take_snoc8 (by omega), List.map_append]; exact h2
  have hk' : k = 44 := by omega
  subst hk'
  rw [← hl, List.take_length] at ho
  have hlen : (l.map u8).length = 44 := by simp [hl]
  repeat (first | refine st ?_ | (refine sa ?_; intro _))
  apply VL_buildSlice1; exact .none; exact rfl; exact rfl; exact rfl; exact rfl; exact rfl; exact rfl; exact rfl
  intro b
  refine VL_append (vs := l.map u8) (news := [u8 128]) (p := 0) (r := 45) .none rfl rfl rfl rfl ho hlen.symm (all_u8 _) rfl (fun w s => s.rdH (k := 1) rfl) rfl rfl (by rw [hlen]; rfl) (by omega) rfl (fun e2 A2 c2 h2 => ?_)
  clear ho
  have hcat : ∀ (a : List UInt8) (x : UInt8), a.map u8 ++ [u8 x] = (a ++ [x]).map u8 := fun a x => by simp
  rw [hcat] at h2
  repeat (first | refine st ?_ | (refine sa ?_; intro _))
  refine VC_loop ⟨fun i : Nat × Ent × Option Addr × Nat => i.1 ≤ 11 ∧ OwnSl i.2.1 i.2.2.1 i.2.2.2 5 ((l ++ [128] ++ List.replicate i.1 0).map u8), fun i => [(0, .slice A l.length ca), (3, .slice i.2.2.1 (45 + i.1) i.2.2.2)], fun _ => [], fun i => [i.2.1]⟩ (fun i => 11 - i.1) (0, e2, A2, c2) ⟨by simp, by simpa using h2⟩ ⟨rfl, rfl, trivial⟩ (fun _ s => s.pick [0] (by decide)) ?_
  clear h2
  rintro ⟨k, e, A', c'⟩ ⟨hk, ho⟩
  dsimp only at hk ho ⊢
  have hlen : ((l ++ [128] ++ List.replicate k 0).map u8).length = 45 + k := by simp [hl]; omega
  by_cases hkn : k < 11
  · repeat (first | refine st ?_ | (refine sa ?_; intro _))
    apply VL_buildSlice1; exact .none; exact rfl; exact rfl; exact rfl; exact rfl; exact rfl; exact rfl; exact rfl
    intro b
    refine VL_append (vs := (l ++ [128] ++ List.replicate k 0).map u8) (news := [u8 0]) (p := 0) (r := 45 + k + 1) .none rfl rfl rfl rfl ho hlen.symm (all_u8 _) rfl (fun w s => s.rdH (k := 1) rfl) rfl rfl (by rw [hlen]; rfl) (by omega) rfl (fun e2 A2 c2 h2 => ?_)
    rw [hcat] at h2
    repeat (first | refine st ?_ | (refine sa ?_; intro _))
    refine VE_fam (k + 1, e2, A2, c2) ⟨by (try dsimp only); omega, ?_⟩ (by (try dsimp only); omega) ⟨rfl, rfl, trivial⟩ (fun _ s => s.pick [0] (by decide))
    rw [List.replicate_succ', ← List.append_assoc]; exact h2
  have hk' : k = 11 := by omega
  subst hk'
  repeat (first | refine st ?_ | (refine sa ?_; intro _))
  apply VL_bin; exact .none; exact rfl; exact rfl; exact b64_mul (a := 8); exact rfl
  rw [hl]
  repeat (first | refine st ?_ | (refine sa ?_; intro _))
  refine VC_loop ⟨fun i : Nat × Ent × Option Addr × Nat => i.1 ≤ 8 ∧ OwnSl i.2.1 i.2.2.1 i.2.2.2 5 ((l ++ [128] ++ List.replicate 11 0 ++ be8.take i.1).map u8), fun i => [(3, .slice i.2.2.1 (56 + i.1) i.2.2.2), (5, u64 (8 * UInt64.ofNat 44)), (6, i64 (7 - (i.1 : Int)))], fun _ => [], fun i => [i.2.1]⟩ (fun i => 8 - i.1) (0, e, A', c') ⟨by simp, by simpa using ho⟩ ⟨rfl, rfl, rfl, trivial⟩ (fun _ s => s) ?_
  clear ho
  rintro ⟨k, e, A', c'⟩ ⟨hk, ho⟩
  dsimp only at hk ho ⊢
  have hlen : ((l ++ [128] ++ List.replicate 11 0 ++ be8.take k).map u8).length = 56 + k := by simp [hl, be8]; omega
  by_cases hkn : k < 8
  · repeat (first | refine st ?_ | (refine sa ?_; intro _))
    apply VL_bin; exact .none; exact rfl; exact rfl; exact b64_shr (c' := 8 * (7 - k)) (by omega) (by omega); exact rfl
    repeat (first | refine st ?_ | (refine sa ?_; intro _))
    rw [be8_get k hkn]
    apply VL_buildSlice1; exact .none; exact rfl; exact rfl; exact rfl; exact rfl; exact rfl; exact rfl; exact rfl
    intro b
    refine VL_append (vs := (l ++ [128] ++ List.replicate 11 0 ++ be8.take k).map u8) (news := [u8 (be8.getD k 0)]) (p := 0) (r := 56 + k + 1) .none rfl rfl rfl rfl ho hlen.symm (all_u8 _) rfl (fun w s => s.rdH (k := 1) rfl) rfl rfl (by rw [hlen]; rfl) (by omega) rfl (fun e2 A2 c2 h2 => ?_)
    rw [hcat] at h2
    repeat (first | refine st ?_ | (refine sa ?_; intro _))
    refine VE_fam (k + 1, e2, A2, c2) ⟨by (try dsimp only); omega, ?_⟩ (by (try dsimp only); omega) ⟨rfl, rfl, by rw [show (7 : Int) - ((k + 1 : Nat) : Int) = 7 - (k : Int) - 1 by omega]; rfl, trivial⟩ (fun _ s => s.pick [0] (by decide))
    rw [take_snoc8 (by exact hkn), ← List.append_assoc]; exact h2
  have hk' : k = 8 := by omega
  subst hk'
  repeat (first | refine st ?_ | (refine sa ?_; intro _))
  refine VE_ret1 rfl rfl (fun w s => ⟨_, rfl, e, A', c', rfl, ?_, s⟩)
  have : padded l = l ++ [128] ++ List.replicate 11 0 ++ be8.take 8 := by rw [padded]; simp [be8]
  rw [this]; exact ho

def outB (sl : List UInt32) (n : Nat) : List UInt8 := (List.range n).map fun i => (sl.getD (i / 4) 0 >>> UInt32.ofNat (24 - 8 * (i % 4))).toUInt8
theorem outB_length (sl : List UInt32) (n : Nat) : (outB sl n).length = n := by simp [outB]
def outF (sl : List UInt32) (n : Nat) : List UInt8 := outB sl n ++ List.replicate (32 - n) 0
theorem outF_length (sl : List UInt32) {n : Nat} (h : n ≤ 32) : (outF sl n).length = 32 := by rw [outF, List.length_append, outB_length, List.length_replicate]; omega
theorem outF_set (sl : List UInt32) {n : Nat} (h : n < 32) : ((outF sl n).map u8).set n (u8 (sl.getD (n / 4) 0 >>> UInt32.ofNat (24 - 8 * (n % 4))).toUInt8) = (outF sl (n + 1)).map u8 := by
  have e : List.replicate (32 - n) (0 : UInt8) = 0 :: List.replicate (32 - (n + 1)) 0 := by rw [show 32 - n = (32 - (n + 1)) + 1 by omega, List.replicate_succ]
  rw [← List.map_set]
  congr 1
  unfold outF
  rw [List.set_append_right _ _ (by rw [outB_length]; exact Nat.le_refl _), outB_length, Nat.sub_self, e, List.set_cons_zero, outB, outB, List.range_succ, List.map_append, List.append_assoc]
  rfl
theorem outF_32 (sl : List UInt32) : outF sl 32 = outB sl 32 := by simp [outF]
def sha (l : List UInt8) : List UInt8 := outB (compress Kt I0 (padded l)) 32
theorem sha_length (l : List UInt8) : (sha l).length = 32 := outB_length _ _
theorem compress_length (ks : List UInt32) (v : V8) (l : List UInt8) : (compress ks v l).length = 8 := adds_length _ _ _

set_option maxHeartbeats 10000000 in
theorem refSum (w : World) (A : Option Addr) (ca : Nat) (l : List UInt8) (hl : l.length = 44) (hA : Rd w A (l.map u8)) :
    Calls Tryd.prog 60 #[.slice A l.length ca] w (Ret fun v w' => v = .agg ((sha l).map u8).toArray ∧ St w [] [] w') := by
  refine enter (args := [_]) Tryd.func60 rfl rfl rfl ?_
  repeat (first | refine st ?_ | (refine sa ?_; intro _))
  rename_i rb
  apply VL_call; exact .none; exact rfl; exact rfl
  · intro w1 s; exact refPadded w1 A ca l hl (s.rd hA)
  rintro w1 v w2 s ⟨e, A', c', rfl, ho, t⟩
  refine ⟨_, _, s.comp0 t, ?_⟩
  repeat (first | refine st ?_ | (refine sa ?_; intro _))
  apply VL_call; exact .none; exact rfl; exact rfl
  · intro w1 s; exact refBegin w1
  rintro w1 v w2 s ⟨rfl, t⟩
  refine ⟨_, _, s.comp t, ?_⟩
  repeat (first | refine st ?_ | (refine sa ?_; intro _))
  rename_i sb
  apply VL_storeW (k := 2) (vs := I0.cells); exact .none; exact rfl; exact rfl; exact rfl; exact rfl; exact rfl; exact rfl; exact rfl; exact NF.zero _
  have hp := padded_length hl
  have hsha : sha l = outB (compress Kt I0 (padded l)) 32 := rfl
  obtain ⟨p, hpp⟩ : ∃ p, p = padded l := ⟨_, rfl⟩
  rw [hsha]
  rw [← hpp] at hp ho ⊢
  repeat (first | refine st ?_ | (refine sa ?_; intro _))
  refine VC_loop ⟨fun j : Nat => j ≤ 1, fun j => [(2, .pointer (some ⟨rb, 0, none⟩)), (3, .slice A' 64 c'), (4, .pointer (some ⟨sb, 0, none⟩)), (5, i64 (64 * (j : Int)))], fun _ => [], fun j => [Blk rb ((List.replicate 32 (0 : UInt8)).map u8) 74, e, Blk sb (if j = 0 then I0.cells else (compress Kt I0 p).map u32) 116]⟩ (fun j => 1 - j) 0 (by simp) ⟨rfl, rfl, rfl, rfl, trivial⟩ (fun _ s => s) ?_
  intro j hj
  dsimp only at hj ⊢
  by_cases h0 : j = 0
  · subst h0
    rw [if_pos rfl]
    repeat (first | refine st ?_ | (refine sa ?_; intro _))
    apply VL_loadW (k := 2); (first | exact .none | exact .yes rfl rfl); exact rfl; exact rfl; exact rfl; exact rfl; exact rfl
    repeat (first | refine st ?_ | (refine sa ?_; intro _))
    apply VL_call; exact .none; exact rfl; exact rfl
    · intro w1 s
      have := refRound w1 A' c' p I0 hp (s.rdO (k := 1) rfl ho)
      rw [hp] at this
      exact this
    rintro w1 v w2 s ⟨rfl, t⟩
    refine ⟨_, _, s.comp t, ?_⟩
    have hc8 := compress_length Kt I0 p
    repeat (first | refine st ?_ | (refine sa ?_; intro _))
    apply VL_storeW (k := 2) (vs := (compress Kt I0 p).map u32); exact .none; exact rfl; exact rfl; exact rfl; (rw [List.length_map, hc8]); exact all_u32 _; exact rfl; exact rfl; exact NF.zero _
    repeat (first | refine st ?_ | (refine sa ?_; intro _))
    exact VE_fam 1 (by simp) (by simp) ⟨rfl, rfl, rfl, rfl, trivial⟩ (fun w5 s5 => s5)
  have h1 : j = 1 := by omega
  subst h1
  rw [if_neg (by decide)]
  have hc8 := compress_length Kt I0 p
  obtain ⟨sl, hsl⟩ : ∃ sl, sl = compress Kt I0 p := ⟨_, rfl⟩
  rw [← hsl] at hc8 ⊢
  repeat (first | refine st ?_ | (refine sa ?_; intro _))
  rename_i xb
  refine VC_loop ⟨fun n : Nat => n ≤ 32, fun n => [(2, .pointer (some ⟨rb, 0, none⟩)), (4, .pointer (some ⟨sb, 0, none⟩)), (6, .pointer (some ⟨xb, 0, none⟩)), (7, i64 (n : Int))], fun _ => [], fun n => [Blk rb ((List.replicate 32 (0 : UInt8)).map u8) 74, e, Blk sb (sl.map u32) 116, Blk xb ((outF sl n).map u8) 74]⟩ (fun n => 32 - n) 0 (by simp) ⟨rfl, rfl, rfl, rfl, trivial⟩ (fun _ s => s) ?_
  intro n hn
  dsimp only at hn ⊢
  by_cases h32 : n < 32
  · repeat (first | refine st ?_ | (refine sa ?_; intro _))
    apply VL_load; exact .none; exact rfl; exact rfl; exact fun w2 s2 => s2.cell (k := 2) rfl (by rw [Nat.zero_add]; exact get_u32 (show n / 4 < sl.length by omega)); exact rfl
    repeat (first | refine st ?_ | (refine sa ?_; intro _))
    apply VL_bin; exact .none; exact rfl; exact rfl; exact b32_shr (c' := 24 - 8 * (n % 4)) (by omega) (by omega); exact rfl
    repeat (first | refine st ?_ | (refine sa ?_; intro _))
    apply VL_storeH1 (k := 3); exact .none; exact rfl; exact rfl; exact rfl; exact rfl; (rw [List.length_map, outF_length sl hn]; omega); exact NF.zero _
    repeat (first | refine st ?_ | (refine sa ?_; intro _))
    refine VE_fam (n + 1) (by (try dsimp only); omega) (by (try dsimp only); omega) ⟨rfl, rfl, rfl, rfl, trivial⟩ (fun w5 s5 => ?_)
    dsimp only
    rw [← outF_set sl h32]
    simp only [Nat.zero_add, List.set_cons_zero, List.set_cons_succ] at s5
    exact s5
  have h32' : n = 32 := by omega
  subst h32'
  rw [outF_32]
  have ho32 := outB_length sl 32
  obtain ⟨o, hoo⟩ : ∃ o, o = outB sl 32 := ⟨_, rfl⟩
  rw [← hoo] at ho32 ⊢
  repeat (first | refine st ?_ | (refine sa ?_; intro _))
  apply VL_loadW (k := 3); exact .none; exact rfl; exact rfl; exact rfl; (rw [List.length_map, ho32]); exact rfl
  apply VL_storeW (k := 0) (vs := o.map u8); exact .none; exact rfl; exact rfl; exact rfl; (rw [List.length_map, ho32]); exact all_u8 _; exact rfl; exact rfl; exact NF.zero _
  repeat (first | refine st ?_ | (refine sa ?_; intro _))
  apply VE_retC (k := 0); exact rfl; infer_instance; exact rfl; exact rfl; exact rfl; (rw [List.length_map, ho32])
  exact fun w s => ⟨_, rfl, rfl, s.drop⟩
end Go.Proofs.YtpboahlpgfglkaaDoor.X
