/-
  Contracts: a config read off bytes, by the program and by the document.
-/
import Derived.Test.YtpboahlpgfglkaaDoorF4
namespace Go.Proofs.YtpboahlpgfglkaaDoor.X
open Go Go.RowKit
set_option linter.unusedVariables false
set_option linter.unusedSimpArgs false
set_option maxRecDepth 100000

def leAt (l : List UInt8) (k : Nat) : Int := (leN ((l.drop (4 * k)).take 4) : Int)
def cfgRead (l : List UInt8) : Cfg := ⟨leAt l 0, leAt l 1, leAt l 2, leAt l 3, leAt l 4, leAt l 5⟩
def cfgZero : Cfg := ⟨0, 0, 0, 0, 0, 0⟩
/-- what is read of a list of bytes: a config, and the error's number -/
def parseCfg (l : List UInt8) : Cfg × Int := if l.length = 24 then (if (cfgRead l).good then (cfgRead l, 0) else (cfgZero, 200)) else (cfgZero, 4)

theorem leAt_bound (l : List UInt8) (k : Nat) : 0 ≤ leAt l k ∧ leAt l k ≤ 4294967295 := by
  unfold leAt
  have h := leN_lt ((l.drop (4 * k)).take 4)
  have h2 : 2 ^ (8 * ((l.drop (4 * k)).take 4).length) ≤ 2 ^ 32 := Nat.pow_le_pow_right (by omega) (by have := List.length_take_le 4 (l.drop (4 * k)); omega)
  omega
theorem leAt_u32 (l : List UInt8) (k : Nat) : ((UInt32.ofNat (leN ((l.drop (4 * k)).take 4))).toNat : Int) = leAt l k := by
  have := leAt_bound l k
  unfold leAt at *
  rw [UInt32.toNat_ofNat', Nat.mod_eq_of_lt (by omega)]

/-- the config's cells when its first k fields are read -/
def cfgCells (l : List UInt8) (k : Nat) : List Value := (List.range 6).map fun j => if j < k then i64 (leAt l j) else i64 0

theorem parseConfig (w : World) (A : Option Addr) (ca : Nat) (l : List UInt8) (hA : Rd w A (l.map u8)) (hl : l.length ≤ 140737488355328) :
    Calls Tryd.prog 57 #[.slice A l.length ca] w (Ret fun v w' => v = .tuple #[(parseCfg l).1.val, i64 (parseCfg l).2] ∧ St w [] [] w') := by
  by_cases h24 : l.length = 24
  · refine enter (args := [_]) Tryd.func57 rfl rfl rfl ?_
    repeat (first | refine st ?_ | (refine sa ?_; intro _))
    apply VL_call; exact .none; exact rfl; exact rfl
    · intro w1 s; exact newReader w1 A ca l (s.rd hA) (by omega)
    rintro w1 v w2 s ⟨b, d, rfl, t⟩
    refine ⟨_, _, s.comp0 t, ?_⟩
    repeat (first | refine st ?_ | (refine sa ?_; intro _))
    apply VL_buildSlice1; exact .none; exact rfl; exact rfl; exact rfl; exact rfl; exact rfl; exact rfl; exact rfl
    intro bs
    repeat (first | refine st ?_ | (refine sa ?_; intro _))
    rename_i r c
    refine VC_loop ⟨fun i : Nat × Option Addr => i.1 ≤ 6 ∧ (i.1 < 6 → i.2 = some ⟨d, 4 * i.1, none⟩), fun i => [(2, .pointer (some ⟨r, 0, none⟩)), (3, i64 0), (4, .pointer (some ⟨b, 0, none⟩)), (5, .pointer (some ⟨c, 0, none⟩)), (21, .slice (some ⟨bs, 0, none⟩) 6 6), (22, i64 6), (23, i64 (i.1 : Int))], fun _ => [],
      fun i => [Blk r [i64 0, i64 0, i64 0, i64 0, i64 0, i64 0] 29, Blk d (l.map u8) 5, some (b, rdr i.2 (24 - 4 * i.1) (24 - 4 * i.1) 0), Blk c (cfgCells l i.1) 29,
        Blk bs [.pointer (some ⟨c, 0 + 0, none⟩), .pointer (some ⟨c, 0 + 1, none⟩), .pointer (some ⟨c, 0 + 2, none⟩), .pointer (some ⟨c, 0 + 3, none⟩), .pointer (some ⟨c, 0 + 4, none⟩), .pointer (some ⟨c, 0 + 5, none⟩)] 105]⟩
      (fun i => 6 - i.1) (0, some ⟨d, 0, none⟩) ⟨by simp, fun _ => rfl⟩ ⟨rfl, rfl, rfl, rfl, rfl, rfl, rfl, trivial⟩ (fun _ s => by rw [h24] at s; exact s) ?_
    rintro ⟨k, A'⟩ ⟨hk, hA'⟩
    dsimp only at hk hA' ⊢
    by_cases hk6 : k = 6
    · subst hk6
      have hcell : cfgCells l 6 = [i64 (cfgRead l).batch, i64 (cfgRead l).message, i64 (cfgRead l).buckets, i64 (cfgRead l).text, i64 (cfgRead l).window, i64 (cfgRead l).workers] := rfl
      have hpc : parseCfg l = if (cfgRead l).good then (cfgRead l, 0) else (cfgZero, 200) := if_pos h24
      rw [hcell, hpc]
      have hbd : 0 ≤ (cfgRead l).message ∧ (cfgRead l).message ≤ 4294967295 := leAt_bound l 1
      repeat (first | refine st ?_ | (refine sa ?_; intro _))
      apply VL_loadW (k := 3); exact .none; exact rfl; exact rfl; exact rfl; exact rfl; exact rfl
      apply VL_call; exact .none; exact rfl; exact rfl
      · intro w3 s3; exact check w3 (cfgRead l) (by omega)
      rintro w3 v w4 s3 ⟨rfl, t3⟩
      refine ⟨_, _, s3.comp t3, ?_⟩
      by_cases hg : (cfgRead l).good
      · rw [if_pos hg, if_pos hg]
        repeat (first | refine st ?_ | (refine sa ?_; intro _))
        apply VL_loadW (k := 3); exact .none; exact rfl; exact rfl; exact rfl; exact rfl; exact rfl
        apply VL_storeW (k := 0); exact .none; exact rfl; exact rfl; exact rfl; exact rfl; exact rfl; exact rfl; exact rfl; exact NF.zero _
        repeat (first | refine st ?_ | (refine sa ?_; intro _))
        apply VE_retCT (k := 0); exact rfl; infer_instance; exact rfl; exact rfl; exact rfl; exact rfl; exact rfl
        exact fun w s => ⟨_, rfl, rfl, s.drop⟩
      · rw [if_neg hg, if_neg hg]
        repeat (first | refine st ?_ | (refine sa ?_; intro _))
        refine VL_build (v := cfgZero.val) .none rfl (fun w => by kernel_rfl) rfl ?_
        repeat (first | refine st ?_ | (refine sa ?_; intro _))
        apply VL_storeW (k := 0); exact .none; exact rfl; exact rfl; exact rfl; exact rfl; exact rfl; exact rfl; exact rfl; exact NF.zero _
        repeat (first | refine st ?_ | (refine sa ?_; intro _))
        apply VE_retCT (k := 0); exact rfl; infer_instance; exact rfl; exact rfl; exact rfl; exact rfl; exact rfl
        exact fun w s => ⟨_, rfl, rfl, s.drop⟩
    have hk' : k < 6 := by omega
    obtain rfl := hA' hk'
    have hptr : ([.pointer (some ⟨c, 0 + 0, none⟩), .pointer (some ⟨c, 0 + 1, none⟩), .pointer (some ⟨c, 0 + 2, none⟩), .pointer (some ⟨c, 0 + 3, none⟩), .pointer (some ⟨c, 0 + 4, none⟩), .pointer (some ⟨c, 0 + 5, none⟩)] : List Value)[k]? = some (.pointer (some ⟨c, k, none⟩)) := by
      rcases k with _ | _ | _ | _ | _ | _ | k <;> first | rfl | omega
    have hcfg : (cfgCells l k).set k (i64 (leAt l k)) = cfgCells l (k + 1) := by
      rcases k with _ | _ | _ | _ | _ | _ | k <;> first | rfl | omega
    repeat (first | refine st ?_ | (refine sa ?_; intro _))
    apply VL_load; exact .none; exact rfl; exact rfl; exact fun w s => s.cellB (k := 4) rfl hptr; exact rfl
    repeat (first | refine st ?_ | (refine sa ?_; intro _))
    apply VL_call; exact .none; exact rfl; exact rfl
    · intro w3 s3
      have hb := (s3.new 2 b _ rfl).2
      have hd : (l.drop (4 * k)).length = 24 - 4 * k := by rw [List.length_drop, h24]
      have hne : b ≠ d := by rintro rfl; exact absurd (s3.nd 1 2 b _ _ rfl rfl) (by omega)
      have hr : Rd w3 (some ⟨d, 4 * k, none⟩) ((l.drop (4 * k)).map u8) := .inr ⟨d, 4 * k, rfl, s3.atH (k := 1) rfl fun j v hj => by rw [← hj, List.map_drop, List.getElem?_drop]⟩
      rw [← hd] at hb
      exact u32_ok w3 b _ _ (l.drop (4 * k)) hb hr (fun a ha => by cases ha; exact fun e => hne e.symm) (by omega) (by omega) (by omega)
    rintro w3 v w4 s3 ⟨rfl, A2, hA2, t3⟩
    refine ⟨_, _, s3.comp1 (k := 2) rfl t3, ?_⟩
    repeat (first | refine st ?_ | (refine sa ?_; intro _))
    apply VL_storeH1 (k := 3); exact .none; exact rfl; exact rfl; exact rfl; exact rfl; (simp [cfgCells]; omega); exact NF.zero _
    repeat (first | refine st ?_ | (refine sa ?_; intro _))
    have hlen : (l.drop (4 * k)).length = 24 - 4 * k := by rw [List.length_drop, h24]
    refine VE_fam (k + 1, A2) ⟨by (try dsimp only); omega, fun h => ?_⟩ (by (try dsimp only); omega) ⟨rfl, rfl, rfl, rfl, rfl, rfl, rfl, trivial⟩ (fun w5 s => ?_)
    · dsimp only at h ⊢
      rw [hlen] at hA2
      rcases hA2 with ⟨h0, -⟩ | rfl
      · omega
      · simp [add_norm]; omega
    · rw [leAt_u32] at s
      have s' : St w [] [Blk r [i64 0, i64 0, i64 0, i64 0, i64 0, i64 0] 29, Blk d (l.map u8) 5, some (b, rdr A2 (List.drop 4 (List.drop (4 * k) l)).length ((List.drop (4 * k) l).length - 4) 0), Blk c ((cfgCells l k).set k (i64 (leAt l k))) 29,
        Blk bs [.pointer (some ⟨c, 0 + 0, none⟩), .pointer (some ⟨c, 0 + 1, none⟩), .pointer (some ⟨c, 0 + 2, none⟩), .pointer (some ⟨c, 0 + 3, none⟩), .pointer (some ⟨c, 0 + 4, none⟩), .pointer (some ⟨c, 0 + 5, none⟩)] 105] w5 := s
      rw [hcfg, show (List.drop 4 (List.drop (4 * k) l)).length = 24 - 4 * (k + 1) by rw [List.length_drop, hlen]; omega, show (List.drop (4 * k) l).length - 4 = 24 - 4 * (k + 1) by omega] at s'
      exact s'
  · refine enter (args := [_]) Tryd.func57 rfl rfl rfl ?_
    repeat (first | refine st ?_ | (refine sa ?_; intro _))
    refine VL_build (v := cfgZero.val) .none rfl (fun w => by kernel_rfl) rfl ?_
    repeat (first | refine st ?_ | (refine sa ?_; intro _))
    apply VL_storeW (k := 0); exact .none; exact rfl; exact rfl; exact rfl; exact rfl; exact rfl; exact rfl; exact rfl; exact NF.zero _
    repeat (first | refine st ?_ | (refine sa ?_; intro _))
    have hpc : parseCfg l = (cfgZero, 4) := if_neg h24
    rw [hpc]
    apply VE_retCT (k := 0); exact rfl; infer_instance; exact rfl; exact rfl; exact rfl; exact rfl; exact rfl
    exact fun w s => ⟨_, rfl, rfl, s.drop⟩
end Go.Proofs.YtpboahlpgfglkaaDoor.X
