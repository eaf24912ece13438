/-
  Contract: the statement CodecOnce.
-/
import Derived.Test.YtpboahlpgfglkaaDoorF26
namespace Go.Proofs.YtpboahlpgfglkaaDoor.X
open Go Go.RowKit
set_option linter.unusedVariables false
set_option linter.unusedSimpArgs false
set_option maxRecDepth 100000

/-! ### what is read has one form -/
theorem le_leN : ∀ (l : List UInt8), le (leN l) l.length = l
  | [] => rfl
  | c :: r => by
    have hc := c.toNat_lt
    have e : le (leN (c :: r)) (r.length + 1) = UInt8.ofNat (leN (c :: r)) :: le (leN (c :: r) >>> 8) r.length := by
      simp only [le, List.range_succ_eq_map, List.map_cons, List.map_map, Nat.mul_zero, Nat.shiftRight_zero]
      congr 1
      apply List.map_congr_left
      intro i _
      simp only [Function.comp_apply, Nat.succ_eq_add_one]
      rw [← Nat.shiftRight_add, show 8 + 8 * i = 8 * (i + 1) by omega]
    rw [List.length_cons, e]
    have e1 : leN (c :: r) >>> 8 = leN r := by
      rw [Nat.shiftRight_eq_div_pow]
      show (c.toNat + 256 * leN r) / 256 = leN r
      omega
    have e2 : UInt8.ofNat (leN (c :: r)) = c := by
      apply UInt8.toNat_inj.1
      rw [UInt8.toNat_ofNat']
      show (c.toNat + 256 * leN r) % 256 = _
      omega
    rw [e1, e2, le_leN r]
theorem le_leN4 {l : List UInt8} (h : l.length = 4) : le (leN l) 4 = l := by rw [← h]; exact le_leN l
theorem cfg_once {l : List UInt8} (h : (parseCfg l).2 = 0) : putCfg (parseCfg l).1 = (l, 0) := by
  unfold parseCfg at h ⊢
  by_cases h24 : l.length = 24
  · rw [if_pos h24] at h ⊢
    by_cases hg : (cfgRead l).good
    · rw [if_pos hg]
      unfold putCfg
      rw [if_pos hg]
      have hl : ∀ k, k < 6 → le (leN ((l.drop (4 * k)).take 4)) 4 = (l.drop (4 * k)).take 4 := fun k hk => le_leN4 (by simp; omega)
      have e : (cfgRead l).bytes = l := by
        unfold Cfg.bytes cfgRead leAt
        simp only [Int.toNat_natCast]
        rw [hl 0 (by omega), hl 1 (by omega), hl 2 (by omega), hl 3 (by omega), hl 4 (by omega), hl 5 (by omega)]
        rcases l with _ | ⟨a0, _ | ⟨a1, _ | ⟨a2, _ | ⟨a3, _ | ⟨b0, _ | ⟨b1, _ | ⟨b2, _ | ⟨b3, _ | ⟨c0, _ | ⟨c1, _ | ⟨c2, _ | ⟨c3, _ | ⟨d0, _ | ⟨d1, _ | ⟨d2, _ | ⟨d3, _ | ⟨e0, _ | ⟨e1, _ | ⟨e2, _ | ⟨e3, _ | ⟨f0, _ | ⟨f1, _ | ⟨f2, _ | ⟨f3, _ | ⟨g, l⟩⟩⟩⟩⟩⟩⟩⟩⟩⟩⟩⟩⟩⟩⟩⟩⟩⟩⟩⟩⟩⟩⟩⟩⟩ <;> simp at h24
        rfl
      rw [e]
    · rw [if_neg hg] at h; simp at h
  · rw [if_neg h24] at h; simp at h
theorem cfg_msg (l : List UInt8) : -9223372036854775808 ≤ (parseCfg l).1.message ∧ (parseCfg l).1.message ≤ 9223372036854775807 := by
  unfold parseCfg
  have := leAt_bound l 1
  split
  · split
    · show _ ≤ leAt l 1 ∧ leAt l 1 ≤ _; omega
    · decide
  · decide
theorem talk_once {c : Cfg} {l : List UInt8} (h : (talkParsed c l).2.2 = 0) : talkReq c (talkParsed c l).1 (talkParsed c l).2.1 = (l, 0) := by
  unfold talkParsed at h ⊢
  by_cases hg : c.good
  · have hg' := hg
    unfold Cfg.good at hg'
    rw [if_pos hg] at h ⊢
    by_cases hl : (l.length : Int) = 16 + c.message
    · rw [if_pos hl]
      unfold talkReq
      rw [if_pos hg, if_pos (by simp; omega), List.take_append_drop]
    · rw [if_neg hl] at h; simp at h
  · rw [if_neg hg] at h; simp at h
theorem rep_once {c : Cfg} {l : List UInt8} (h : (repParsed c l).2.2 = 0) : talkRep c (repParsed c l).1 (repParsed c l).2.1 = (l, 0) := by
  unfold repParsed at h ⊢
  by_cases hg : c.good
  · have hg' := hg
    unfold Cfg.good at hg'
    rw [if_pos hg] at h ⊢
    by_cases hl : (l.length : Int) = 1 + c.message
    · rw [if_pos hl] at h ⊢
      cases l with
      | nil => simp at hl; omega
      | cons x r =>
        simp only [List.length_cons] at hl
        dsimp only at h ⊢
        by_cases hb : 1 < x.toNat ∨ (x.toNat = 0 ∧ (orAll r).toNat ≠ 0)
        · rw [if_pos hb] at h; simp at h
        · rw [if_neg hb]
          unfold talkRep
          rw [if_pos hg, if_pos (by dsimp only; omega)]
          by_cases h1 : x.toNat = 1
          · have e : x = 1 := UInt8.toNat_inj.1 h1
            subst e; rfl
          · have h0 : x.toNat = 0 := by omega
            have e : x = 0 := UInt8.toNat_inj.1 h0
            have ho : (orAll r).toNat = 0 := by omega
            have e2 := (orAll_zero r).1 (UInt8.toNat_inj.1 ho)
            subst e
            dsimp only
            rw [show decide (((0 : UInt8).toNat : Int) = 1) = false from rfl]
            simp only [Bool.false_eq_true, if_false]
            rw [show 1 + c.message.toNat = r.length + 1 by omega, List.replicate_succ, ← e2]
    · rw [if_neg hl] at h; simp at h
  · rw [if_neg hg] at h; simp at h
theorem dial_once {c : Cfg} {l : List UInt8} (h : (dialParsed c l).2.2 = 0) : dialReq c (dialParsed c l).1 (dialParsed c l).2.1 = (l, 0) ∧ (dialParsed c l).2.1.length = 88 := by
  unfold dialParsed at h ⊢
  by_cases hg : c.good
  · rw [if_pos hg] at h ⊢
    by_cases hl : (l.length : Int) = 92
    · rw [if_pos hl] at h ⊢
      by_cases hb : (leN (l.take 4) : Int) < c.buckets
      · rw [if_pos hb]
        unfold dialReq
        refine ⟨?_, by simp; omega⟩
        rw [if_pos hg, if_pos ⟨by omega, hb⟩, if_pos (by simp; omega)]
        dsimp only
        rw [Int.toNat_natCast, le_leN4 (by simp; omega), List.take_append_drop]
      · rw [if_neg hb] at h; simp at h
    · rw [if_neg hl] at h; simp at h
  · rw [if_neg hg] at h; simp at h
theorem flat_chunks (l : List UInt8) (o : Nat) : ∀ n, o + 88 * n ≤ l.length → ((List.range n).map fun i => (l.drop (o + 88 * i)).take 88).flatten = (l.drop o).take (88 * n)
  | 0, _ => by simp
  | n + 1, h => by
    rw [List.range_succ, List.map_append, List.flatten_append, flat_chunks l o n (by omega)]
    simp only [List.map_cons, List.map_nil, List.flatten_cons, List.flatten_nil, List.append_nil]
    rw [show 88 * (n + 1) = 88 * n + 88 by omega, List.take_add, List.drop_drop]
theorem frame_once {l : List UInt8} (h : (frameParsed l).2.2 = 0) : frameF (frameParsed l).1 (frameParsed l).2.1 = (l, 0) ∧ ∀ r ∈ (frameParsed l).2.1, r.length = 88 := by
  unfold frameParsed at h ⊢
  by_cases hok : frameOk l
  · rw [if_pos hok]
    obtain ⟨h8, h1, h64, h256, hl⟩ := hok
    have h88 : ∀ r ∈ frameRows l (frameN l), r.length = 88 := by
      intro r hr
      unfold frameRows at hr
      obtain ⟨i, hi, rfl⟩ := List.mem_map.1 hr
      have := List.mem_range.1 hi
      simp; omega
    refine ⟨?_, h88⟩
    unfold frameF
    dsimp only
    rw [if_pos ⟨by omega, by omega⟩, frameRows_length, if_pos h256, if_pos h88, Int.toNat_natCast, le_leN4 (by simp; omega)]
    have e4 : le (frameN l) 4 = (l.drop 4).take 4 := le_leN4 (by simp; omega)
    rw [e4]
    unfold frameRows
    rw [flat_chunks l 8 (frameN l) (by omega)]
    have e5 : (l.drop 8).take (88 * frameN l) = l.drop 8 := List.take_of_length_le (by simp; omega)
    rw [e5]
    have e6 : (l.drop 4).take 4 ++ l.drop 8 = l.drop 4 := by
      conv => rhs; rw [← List.take_append_drop 4 (l.drop 4)]
      rw [List.drop_drop]
    rw [List.append_assoc, e6, List.take_append_drop]
  · rw [if_neg hok] at h; simp at h
end Go.Proofs.YtpboahlpgfglkaaDoor.X
