/-
  Contract: the statement CodecBack.
-/
import Derived.Test.YtpboahlpgfglkaaDoorF19
import Derived.Test.YtpboahlpgfglkaaDoorF25
namespace Go.Proofs.YtpboahlpgfglkaaDoor.X
open Go Go.RowKit
set_option linter.unusedVariables false
set_option linter.unusedSimpArgs false
set_option maxRecDepth 100000

theorem sizedI (w : World) (A : Option Addr) (ca : Nat) (l : List UInt8) (n : Int) (hA : Rd w A (l.map u8)) (h0 : 0 ≤ n) (hn : n ≤ 1000) (hl : l.length ≤ 140737488355328) :
    Calls Tryd.prog 54 #[.slice A l.length ca, i64 n] w (Ret fun v w' => ∃ b, v = .slice (some ⟨b, 0, none⟩) (sizedTo l n.toNat).length (sizedTo l n.toNat).length ∧ St w [] [Blk b ((sizedTo l n.toNat).map u8) 5] w') := by
  obtain ⟨m, rfl⟩ := Int.eq_ofNat_of_zero_le h0
  have q := sized w A ca l m hA (by omega) hl
  rw [sizedTo_length, Int.toNat_natCast]; exact q
theorem dropSame (d : List UInt8) (hd : d.length = 16) (w : World) : (Op.equal 31 (dropV d) (dropV d)).run Tryd.prog w = .ok true w := by
  rw [eqArr8 (P := Tryd.prog) (t := 31) d d hd hd w]; simp
theorem eqT (w : World) (A B : Option Addr) (ca cb : Nat) (l : List UInt8) (hA : Rd w A (l.map u8)) (hB : Rd w B (l.map u8)) (hla : l.length ≤ 4611686018427387904) :
    Calls Tryd.prog 28 #[.slice A l.length ca, .slice B l.length cb] w (Ret fun v w' => v = .bool true ∧ St w [] [] w') := by
  have q := eqBytes w A B ca cb l l hA hB hla
  simpa using q
theorem map_le {e : Ent} {A : Option Addr} {c T : Nat} {l : List UInt8} (h : OwnSl e A c T (l.map u8)) : l.length ≤ c := by simpa using h.le

set_option maxHeartbeats 8000000 in
theorem codecBack (w : World) (x : TalkA) (n : Int) (hx : x.ok w) :
    Calls Tryd.prog 11 #[x.val, i64 n] w (Ret fun v w' => v = .bool true ∧ St w [] [] w') := by
  obtain ⟨c, d, th, mr, br⟩ := x
  have cC := TalkA.cellsC ⟨c, d, th, mr, br⟩
  have cD := TalkA.cellsD ⟨c, d, th, mr, br⟩ hx.d16
  have c3 := TalkA.cells3 ⟨c, d, th, mr, br⟩ hx.d16
  obtain ⟨hd, hmr, hbr, hmc, hbc, hml, hbl, hm⟩ := hx
  dsimp only at hd hmr hbr hmc hbc hml hbl hm cC cD c3
  have hd' : (d.map u8).length = 16 := by simp [hd]
  refine enter (args := [_, _]) Tryd.func11 rfl rfl rfl ?_
  repeat (first | refine st ?_ | (refine sa ?_; intro _))
  apply VL_call; exact .none; exact rfl; exact rfl
  · intro w1 s; exact awake w1
  rintro w1 v w2 s ⟨rfl, t⟩
  refine ⟨_, _, s.comp t, ?_⟩
  repeat (first | refine st ?_ | (refine sa ?_; intro _))
  apply VL_loadA (cs := c.cells); exact .none; exact rfl; exact rfl; exact rfl; exact fun w s => s.atH (k := 0) rfl cC; exact rfl
  repeat (first | refine st ?_ | (refine sa ?_; intro _))
  apply VL_storeW (k := 1); exact .none; exact rfl; exact rfl; exact rfl; exact rfl; exact rfl; exact rfl; exact rfl; exact NF.zero _
  repeat (first | refine st ?_ | (refine sa ?_; intro _))
  apply VL_loadW (k := 1); (first | exact .none | exact .yes rfl rfl); exact rfl; exact rfl; exact rfl; exact rfl; exact rfl
  by_cases hg : c.good
  rotate_left
  · have hp : putCfg c = ([], 200) := if_neg hg
    apply VL_call; exact .none; exact rfl; exact rfl
    · intro w1 s; have q := putConfig w1 c hm; rw [hp] at q; dsimp only at q; exact q
    rintro w1 v w2 s ⟨e, A', c', rfl, ho, t⟩
    refine ⟨_, _, s.comp0 t, ?_⟩
    repeat (first | refine st ?_ | (refine sa ?_; intro _))
    apply VL_loadW (k := 1); (first | exact .none | exact .yes rfl rfl); exact rfl; exact rfl; exact rfl; exact rfl; exact rfl
    apply VL_call; exact .none; exact rfl; exact rfl
    · intro w1 s; exact check_bad w1 c hg hm
    rintro w1 v w2 s ⟨rfl, t⟩
    refine ⟨_, _, s.comp t, ?_⟩
    repeat (first | refine st ?_ | (refine sa ?_; intro _))
    exact VE_ret1 rfl rfl (fun w s => ⟨_, rfl, rfl, s.drop⟩)
  have hg' := hg
  unfold Cfg.good at hg'
  have hp : putCfg c = (c.bytes, 0) := if_pos hg
  have hbl := Cfg.bytes_length c
  apply VL_call; exact .none; exact rfl; exact rfl
  · intro w1 s; have q := putConfig w1 c hm; rw [hp] at q; dsimp only at q; exact q
  rintro w1 v w2 s ⟨e, A', c', rfl, ho, t⟩
  refine ⟨_, _, s.comp0 t, ?_⟩
  repeat (first | refine st ?_ | (refine sa ?_; intro _))
  apply VL_loadW (k := 1); (first | exact .none | exact .yes rfl rfl); exact rfl; exact rfl; exact rfl; exact rfl; exact rfl
  apply VL_call; exact .none; exact rfl; exact rfl
  · intro w1 s; exact check_good w1 c hg
  rintro w1 v w2 s ⟨rfl, t⟩
  refine ⟨_, _, s.comp t, ?_⟩
  repeat (first | refine st ?_ | (refine sa ?_; intro _))
  apply VL_call; exact .none; exact rfl; exact rfl
  · intro w1 s; have q := parseConfig w1 A' c' c.bytes (s.rdO (k := 2) rfl ho) (by omega); rw [cfg_back c hg] at q; dsimp only at q; exact q
  rintro w1 v w2 s ⟨rfl, t⟩
  refine ⟨_, _, s.comp t, ?_⟩
  repeat (first | refine st ?_ | (refine sa ?_; intro _))
  apply VL_storeW (k := 3); exact .none; exact rfl; exact rfl; exact rfl; exact rfl; exact rfl; exact rfl; exact rfl; exact NF.zero _
  repeat (first | refine st ?_ | (refine sa ?_; intro _))
  apply VL_loadW (k := 3); (first | exact .none | exact .yes rfl rfl); exact rfl; exact rfl; exact rfl; exact rfl; exact rfl
  apply VL_loadW (k := 1); (first | exact .none | exact .yes rfl rfl); exact rfl; exact rfl; exact rfl; exact rfl; exact rfl
  apply VL_neA; exact .yes rfl rfl; exact rfl; exact rfl; exact cfgSame c.batch c.message c.buckets c.text c.window c.workers; exact cfgGuard; exact rfl
  repeat (first | refine st ?_ | (refine sa ?_; intro _))
  apply VL_load; exact .none; exact rfl; exact rfl; exact fun w s => s.cell (k := 0) rfl (c3 1); exact rfl
  repeat (first | refine st ?_ | (refine sa ?_; intro _))
  apply VL_call; exact .none; exact rfl; exact rfl
  · intro w1 s; exact sizedI w1 mr.A mr.c mr.l c.message (s.rd hmr) (by omega) (by omega) (by omega)
  rintro w1 v w2 s ⟨mb, rfl, t⟩
  refine ⟨_, _, s.comp0 t, ?_⟩
  obtain ⟨mm, hmm⟩ : ∃ mm, mm = sizedTo mr.l c.message.toNat := ⟨_, rfl⟩
  rw [← hmm]
  have hmm' : (mm.length : Int) = c.message := by rw [hmm, sizedTo_length]; omega
  have hs1 : cfgSizes c 1 = (16 + c.message, 1 + c.message, 26 + c.message, 0) := by unfold cfgSizes; rw [if_pos hg]; rfl
  have hs2 : cfgSizes c 2 = (92, 16, 114, 0) := by unfold cfgSizes; rw [if_pos hg]; rfl
  obtain ⟨k1, k2⟩ := talk_back c hg d mm hd hmm'
  obtain ⟨k3, k4⟩ := rep_back c hg th mm hmm'
  repeat (first | refine st ?_ | (refine sa ?_; intro _))
  apply VL_loadW (k := 1); (first | exact .none | exact .yes rfl rfl); exact rfl; exact rfl; exact rfl; exact rfl; exact rfl
  apply VL_call; exact .none; exact rfl; exact rfl
  · intro w1 s; have q := requestSize w1 c 1 hm; rw [hs1] at q; dsimp only at q; exact q
  rintro w1 v w2 s ⟨rfl, t⟩
  refine ⟨_, _, s.comp t, ?_⟩
  repeat (first | refine st ?_ | (refine sa ?_; intro _))
  apply VL_loadW (k := 1); (first | exact .none | exact .yes rfl rfl); exact rfl; exact rfl; exact rfl; exact rfl; exact rfl
  apply VL_call; exact .none; exact rfl; exact rfl
  · intro w1 s; have q := replySize w1 c 1 hm; rw [hs1] at q; dsimp only at q; exact q
  rintro w1 v w2 s ⟨rfl, t⟩
  refine ⟨_, _, s.comp t, ?_⟩
  repeat (first | refine st ?_ | (refine sa ?_; intro _))
  apply VL_loadW (k := 1); (first | exact .none | exact .yes rfl rfl); exact rfl; exact rfl; exact rfl; exact rfl; exact rfl
  repeat (first | refine st ?_ | (refine sa ?_; intro _))
  apply VL_loadA (cs := d.map u8); exact .none; exact rfl; exact rfl; exact hd'; exact fun w s => s.atH (k := 0) rfl cD; exact rfl
  repeat (first | refine st ?_ | (refine sa ?_; intro _))
  apply VL_call; exact .none; exact rfl; exact rfl
  · intro w1 s; have q := talkRequest w1 c d hd (some ⟨mb, 0, none⟩) mm.length mm (s.rdH (k := 4) rfl) hm; rw [k1] at q; dsimp only at q; exact q
  rintro w1 v w2 s ⟨e2, A2, c2, rfl, ho2, t⟩
  refine ⟨_, _, s.comp0 t, ?_⟩
  have hlr : (((d ++ mm).length : Nat) : Int) = 16 + c.message := by rw [List.length_append]; omega
  repeat (first | refine st ?_ | (refine sa ?_; intro _))
  apply VL_loadW (k := 1); (first | exact .none | exact .yes rfl rfl); exact rfl; exact rfl; exact rfl; exact rfl; exact rfl
  repeat (first | refine st ?_ | (refine sa ?_; intro _))
  apply VL_call; exact .none; exact rfl; exact rfl
  · intro w1 s; have q := parseTalk w1 c A2 c2 (d ++ mm) (s.rdO (k := 5) rfl ho2) (map_le ho2) hm; rw [k2] at q; dsimp only at q; exact q
  rintro w1 v w2 s ⟨e3, A3, c3', rfl, ho3, t⟩
  refine ⟨_, _, s.comp0 t, ?_⟩
  repeat (first | refine st ?_ | (refine sa ?_; intro _))
  apply VL_storeW (k := 7); exact .none; exact rfl; exact rfl; exact rfl; exact hd'; exact all_u8 _; exact rfl; exact rfl; exact NF.zero _
  repeat (first | refine st ?_ | (refine sa ?_; intro _))
  apply VL_loadW (k := 7); exact .yes rfl rfl; exact rfl; exact rfl; exact rfl; exact hd'; exact rfl
  repeat (first | refine st ?_ | (refine sa ?_; intro _))
  apply VL_loadA (cs := d.map u8); exact .yes rfl rfl; exact rfl; exact rfl; exact hd'; exact fun w s => s.atH (k := 0) rfl cD; exact rfl
  apply VL_neA; exact .yes rfl rfl; exact rfl; exact rfl; exact dropSame d hd; exact dropGuard; exact rfl
  repeat (first | refine st ?_ | (refine sa ?_; intro _))
  apply VL_call; exact .yes rfl rfl; exact rfl; exact rfl
  · intro w1 s; exact eqT w1 A3 (some ⟨mb, 0, none⟩) c3' mm.length mm (s.rdO (k := 6) rfl ho3) (s.rdH (k := 4) rfl) (by omega)
  rintro w1 v w2 s ⟨rfl, t⟩
  refine ⟨_, _, s.comp t, ?_⟩
  repeat (first | refine st ?_ | (refine sa ?_; intro _))
  refine VL_pick [0, 1, 4] (by decide) ?_
  apply VL_loadW (k := 1); (first | exact .none | exact .yes rfl rfl); exact rfl; exact rfl; exact rfl; exact rfl; exact rfl
  repeat (first | refine st ?_ | (refine sa ?_; intro _))
  apply VL_load; exact .none; exact rfl; exact rfl; exact fun w s => s.cell (k := 0) rfl (c3 0); exact rfl
  repeat (first | refine st ?_ | (refine sa ?_; intro _))
  rcases th with _ | _
  · have k3 : talkRep c false mm = (List.replicate (1 + c.message.toNat) 0, 0) := k3
    have k4 : repParsed c (List.replicate (1 + c.message.toNat) 0) = (false, List.replicate c.message.toNat 0, 0) := k4
    obtain ⟨rb, hrb⟩ : ∃ rb : List UInt8, rb = List.replicate (1 + c.message.toNat) 0 := ⟨_, rfl⟩
    rw [← hrb] at k3 k4
    have hrbl : (rb.length : Int) = 1 + c.message := by rw [hrb]; simp; omega
    apply VL_call; exact .none; exact rfl; exact rfl
    · intro w1 s; have q := talkReply w1 c false (some ⟨mb, 0, none⟩) mm.length mm (s.rdH (k := 2) rfl) hm; rw [k3] at q; dsimp only at q; exact q
    rintro w1 v w2 s ⟨e4, A4, c4, rfl, ho4, t⟩
    refine ⟨_, _, s.comp0 t, ?_⟩
    repeat (first | refine st ?_ | (refine sa ?_; intro _))
    apply VL_loadW (k := 1); (first | exact .none | exact .yes rfl rfl); exact rfl; exact rfl; exact rfl; exact rfl; exact rfl
    repeat (first | refine st ?_ | (refine sa ?_; intro _))
    apply VL_call; exact .none; exact rfl; exact rfl
    · intro w1 s; have q := parseReply w1 c A4 c4 rb (s.rdO (k := 3) rfl ho4) (map_le ho4) hm; rw [k4] at q; dsimp only at q; exact q
    rintro w1 v w2 s ⟨e5, A5, c5, rfl, ho5, t⟩
    refine ⟨_, _, s.comp0 t, ?_⟩
    rw [List.length_replicate]
    repeat (first | refine st ?_ | (refine sa ?_; intro _))
    apply VL_load; exact .yes rfl rfl; exact rfl; exact rfl; exact fun w s => s.cell (k := 0) rfl (c3 0); exact rfl
    apply VL_neB; exact .yes rfl rfl; exact rfl; exact rfl; exact rfl
    repeat (first | refine st ?_ | (refine sa ?_; intro _))
    refine VL_makeSlice (.yes rfl rfl) rfl rfl rfl (l' := c.message.toNat) (c' := c.message.toNat) (by omega) (by omega) (by omega) (by omega) (by omega) rfl (fun e0 A0 h0 => ?_)
    apply VL_call; exact .yes rfl rfl; exact rfl; exact rfl
    · intro w1 s
      have q := eqT w1 A5 A0 c5 c.message.toNat (List.replicate c.message.toNat 0) (s.rdO (k := 4) rfl ho5) (by have := s.rdO (k := 5) rfl h0; simpa using this) (by simp; omega)
      rw [List.length_replicate] at q; exact q
    rintro w1 v w2 s ⟨rfl, t⟩
    refine ⟨_, _, s.comp t, ?_⟩
    repeat (first | refine st ?_ | (refine sa ?_; intro _))
    refine VL_pick [0, 1] (by decide) ?_
    apply VL_load; exact .none; exact rfl; exact rfl; exact fun w s => s.cell (k := 0) rfl (c3 2); exact rfl
    repeat (first | refine st ?_ | (refine sa ?_; intro _))
    apply VL_call; exact .none; exact rfl; exact rfl
    · intro w1 s; exact sizedI w1 br.A br.c br.l 88 (s.rd hbr) (by omega) (by omega) (by omega)
    rintro w1 v w2 s ⟨ib, rfl, t⟩
    refine ⟨_, _, s.comp0 t, ?_⟩
    obtain ⟨inv, hinv⟩ : ∃ inv, inv = sizedTo br.l (88 : Int).toNat := ⟨_, rfl⟩
    rw [← hinv]
    have hinv' : inv.length = 88 := by rw [hinv, sizedTo_length]; rfl
    repeat (first | refine st ?_ | (refine sa ?_; intro _))
    apply VL_loadW (k := 1); (first | exact .none | exact .yes rfl rfl); exact rfl; exact rfl; exact rfl; exact rfl; exact rfl
    apply VL_call; exact .none; exact rfl; exact rfl
    · intro w1 s; have q := requestSize w1 c 2 hm; rw [hs2] at q; dsimp only at q; exact q
    rintro w1 v w2 s ⟨rfl, t⟩
    refine ⟨_, _, s.comp t, ?_⟩
    repeat (first | refine st ?_ | (refine sa ?_; intro _))
    apply VL_loadW (k := 1); (first | exact .none | exact .yes rfl rfl); exact rfl; exact rfl; exact rfl; exact rfl; exact rfl
    apply VL_call; exact .none; exact rfl; exact rfl
    · intro w1 s; have q := replySize w1 c 2 hm; rw [hs2] at q; dsimp only at q; exact q
    rintro w1 v w2 s ⟨rfl, t⟩
    refine ⟨_, _, s.comp t, ?_⟩
    repeat (first | refine st ?_ | (refine sa ?_; intro _))
    apply VL_loadW (k := 1); (first | exact .none | exact .yes rfl rfl); exact rfl; exact rfl; exact rfl; exact rfl; exact rfl
    repeat (first | refine st ?_ | (refine sa ?_; intro _))
    by_cases hin : 0 ≤ n ∧ n < c.buckets
    · obtain ⟨hi0, hi1⟩ := hin
      obtain ⟨d1, d2⟩ := dial_back c hg n hi0 hi1 inv hinv'
      apply VL_call; exact .none; exact rfl; exact rfl
      · intro w1 s; have q := dialRequest w1 c n (some ⟨ib, 0, none⟩) inv.length inv (s.rdH (k := 2) rfl) (.inl hinv') hm; rw [d1] at q; dsimp only at q; exact q
      rintro w1 v w2 s ⟨e6, A6, c6, rfl, ho6, t⟩
      refine ⟨_, _, s.comp0 t, ?_⟩
      have hl92 : (((le n.toNat 4 ++ inv).length : Nat) : Int) = 92 := by rw [List.length_append, le_length]; omega
      repeat (first | refine st ?_ | (refine sa ?_; intro _))
      apply VL_loadW (k := 1); (first | exact .none | exact .yes rfl rfl); exact rfl; exact rfl; exact rfl; exact rfl; exact rfl
      repeat (first | refine st ?_ | (refine sa ?_; intro _))
      apply VL_call; exact .none; exact rfl; exact rfl
      · intro w1 s; have q := parseDial w1 c A6 c6 (le n.toNat 4 ++ inv) (s.rdO (k := 3) rfl ho6) hm; rw [d2] at q; dsimp only at q; exact q
      rintro w1 v w2 s ⟨e7, A7, c7, rfl, ho7, t⟩
      refine ⟨_, _, s.comp0 t, ?_⟩
      repeat (first | refine st ?_ | (refine sa ?_; intro _))
      apply VL_call; exact .yes rfl rfl; exact rfl; exact rfl
      · intro w1 s; exact eqT w1 A7 (some ⟨ib, 0, none⟩) c7 inv.length inv (s.rdO (k := 4) rfl ho7) (s.rdH (k := 2) rfl) (by omega)
      rintro w1 v w2 s ⟨rfl, t⟩
      refine ⟨_, _, s.comp t, ?_⟩
      repeat (first | refine st ?_ | (refine sa ?_; intro _))
      apply VL_call; exact .yes rfl rfl; exact rfl; exact rfl
      · intro w1 s; exact ack w1
      rintro w1 v w2 s ⟨ab, rfl, t⟩
      refine ⟨_, _, s.comp0 t, ?_⟩
      repeat (first | refine st ?_ | (refine sa ?_; intro _))
      exact VE_ret1 rfl rfl (fun w s => ⟨_, rfl, rfl, s.drop⟩)
    · have d1 : dialReq c n inv = ([], 201) := by unfold dialReq; rw [if_pos hg, if_neg hin]
      apply VL_call; exact .none; exact rfl; exact rfl
      · intro w1 s; have q := dialRequest w1 c n (some ⟨ib, 0, none⟩) inv.length inv (s.rdH (k := 2) rfl) (.inl hinv') hm; rw [d1] at q; dsimp only at q; exact q
      rintro w1 v w2 s ⟨e6, A6, c6, rfl, ho6, t⟩
      refine ⟨_, _, s.comp0 t, ?_⟩
      by_cases hn0 : n < 0
      · repeat (first | refine st ?_ | (refine sa ?_; intro _))
        exact VE_ret1 rfl rfl (fun w s => ⟨_, rfl, rfl, s.drop⟩)
      · have hn1 : c.buckets ≤ n := by omega
        repeat (first | refine st ?_ | (refine sa ?_; intro _))
        exact VE_ret1 rfl rfl (fun w s => ⟨_, rfl, rfl, s.drop⟩)
  · have k3 : talkRep c true mm = (1 :: mm, 0) := k3
    have k4 : repParsed c (1 :: mm) = (true, mm, 0) := k4
    obtain ⟨rb, hrb⟩ : ∃ rb : List UInt8, rb = 1 :: mm := ⟨_, rfl⟩
    rw [← hrb] at k3 k4
    have hrbl : (rb.length : Int) = 1 + c.message := by rw [hrb]; simp; omega
    apply VL_call; exact .none; exact rfl; exact rfl
    · intro w1 s; have q := talkReply w1 c true (some ⟨mb, 0, none⟩) mm.length mm (s.rdH (k := 2) rfl) hm; rw [k3] at q; dsimp only at q; exact q
    rintro w1 v w2 s ⟨e4, A4, c4, rfl, ho4, t⟩
    refine ⟨_, _, s.comp0 t, ?_⟩
    repeat (first | refine st ?_ | (refine sa ?_; intro _))
    apply VL_loadW (k := 1); (first | exact .none | exact .yes rfl rfl); exact rfl; exact rfl; exact rfl; exact rfl; exact rfl
    repeat (first | refine st ?_ | (refine sa ?_; intro _))
    apply VL_call; exact .none; exact rfl; exact rfl
    · intro w1 s; have q := parseReply w1 c A4 c4 rb (s.rdO (k := 3) rfl ho4) (map_le ho4) hm; rw [k4] at q; dsimp only at q; exact q
    rintro w1 v w2 s ⟨e5, A5, c5, rfl, ho5, t⟩
    refine ⟨_, _, s.comp0 t, ?_⟩
    repeat (first | refine st ?_ | (refine sa ?_; intro _))
    apply VL_load; exact .yes rfl rfl; exact rfl; exact rfl; exact fun w s => s.cell (k := 0) rfl (c3 0); exact rfl
    apply VL_neB; exact .yes rfl rfl; exact rfl; exact rfl; exact rfl
    repeat (first | refine st ?_ | (refine sa ?_; intro _))
    apply VL_call; exact .yes rfl rfl; exact rfl; exact rfl
    · intro w1 s; exact eqT w1 A5 (some ⟨mb, 0, none⟩) c5 mm.length mm (s.rdO (k := 4) rfl ho5) (s.rdH (k := 2) rfl) (by omega)
    rintro w1 v w2 s ⟨rfl, t⟩
    refine ⟨_, _, s.comp t, ?_⟩
    repeat (first | refine st ?_ | (refine sa ?_; intro _))
    refine VL_pick [0, 1] (by decide) ?_
    apply VL_load; exact .none; exact rfl; exact rfl; exact fun w s => s.cell (k := 0) rfl (c3 2); exact rfl
    repeat (first | refine st ?_ | (refine sa ?_; intro _))
    apply VL_call; exact .none; exact rfl; exact rfl
    · intro w1 s; exact sizedI w1 br.A br.c br.l 88 (s.rd hbr) (by omega) (by omega) (by omega)
    rintro w1 v w2 s ⟨ib, rfl, t⟩
    refine ⟨_, _, s.comp0 t, ?_⟩
    obtain ⟨inv, hinv⟩ : ∃ inv, inv = sizedTo br.l (88 : Int).toNat := ⟨_, rfl⟩
    rw [← hinv]
    have hinv' : inv.length = 88 := by rw [hinv, sizedTo_length]; rfl
    repeat (first | refine st ?_ | (refine sa ?_; intro _))
    apply VL_loadW (k := 1); (first | exact .none | exact .yes rfl rfl); exact rfl; exact rfl; exact rfl; exact rfl; exact rfl
    apply VL_call; exact .none; exact rfl; exact rfl
    · intro w1 s; have q := requestSize w1 c 2 hm; rw [hs2] at q; dsimp only at q; exact q
    rintro w1 v w2 s ⟨rfl, t⟩
    refine ⟨_, _, s.comp t, ?_⟩
    repeat (first | refine st ?_ | (refine sa ?_; intro _))
    apply VL_loadW (k := 1); (first | exact .none | exact .yes rfl rfl); exact rfl; exact rfl; exact rfl; exact rfl; exact rfl
    apply VL_call; exact .none; exact rfl; exact rfl
    · intro w1 s; have q := replySize w1 c 2 hm; rw [hs2] at q; dsimp only at q; exact q
    rintro w1 v w2 s ⟨rfl, t⟩
    refine ⟨_, _, s.comp t, ?_⟩
    repeat (first | refine st ?_ | (refine sa ?_; intro _))
    apply VL_loadW (k := 1); (first | exact .none | exact .yes rfl rfl); exact rfl; exact rfl; exact rfl; exact rfl; exact rfl
    repeat (first | refine st ?_ | (refine sa ?_; intro _))
    by_cases hin : 0 ≤ n ∧ n < c.buckets
    · obtain ⟨hi0, hi1⟩ := hin
      obtain ⟨d1, d2⟩ := dial_back c hg n hi0 hi1 inv hinv'
      apply VL_call; exact .none; exact rfl; exact rfl
      · intro w1 s; have q := dialRequest w1 c n (some ⟨ib, 0, none⟩) inv.length inv (s.rdH (k := 2) rfl) (.inl hinv') hm; rw [d1] at q; dsimp only at q; exact q
      rintro w1 v w2 s ⟨e6, A6, c6, rfl, ho6, t⟩
      refine ⟨_, _, s.comp0 t, ?_⟩
      have hl92 : (((le n.toNat 4 ++ inv).length : Nat) : Int) = 92 := by rw [List.length_append, le_length]; omega
      repeat (first | refine st ?_ | (refine sa ?_; intro _))
      apply VL_loadW (k := 1); (first | exact .none | exact .yes rfl rfl); exact rfl; exact rfl; exact rfl; exact rfl; exact rfl
      repeat (first | refine st ?_ | (refine sa ?_; intro _))
      apply VL_call; exact .none; exact rfl; exact rfl
      · intro w1 s; have q := parseDial w1 c A6 c6 (le n.toNat 4 ++ inv) (s.rdO (k := 3) rfl ho6) hm; rw [d2] at q; dsimp only at q; exact q
      rintro w1 v w2 s ⟨e7, A7, c7, rfl, ho7, t⟩
      refine ⟨_, _, s.comp0 t, ?_⟩
      repeat (first | refine st ?_ | (refine sa ?_; intro _))
      apply VL_call; exact .yes rfl rfl; exact rfl; exact rfl
      · intro w1 s; exact eqT w1 A7 (some ⟨ib, 0, none⟩) c7 inv.length inv (s.rdO (k := 4) rfl ho7) (s.rdH (k := 2) rfl) (by omega)
      rintro w1 v w2 s ⟨rfl, t⟩
      refine ⟨_, _, s.comp t, ?_⟩
      repeat (first | refine st ?_ | (refine sa ?_; intro _))
      apply VL_call; exact .yes rfl rfl; exact rfl; exact rfl
      · intro w1 s; exact ack w1
      rintro w1 v w2 s ⟨ab, rfl, t⟩
      refine ⟨_, _, s.comp0 t, ?_⟩
      repeat (first | refine st ?_ | (refine sa ?_; intro _))
      exact VE_ret1 rfl rfl (fun w s => ⟨_, rfl, rfl, s.drop⟩)
    · have d1 : dialReq c n inv = ([], 201) := by unfold dialReq; rw [if_pos hg, if_neg hin]
      apply VL_call; exact .none; exact rfl; exact rfl
      · intro w1 s; have q := dialRequest w1 c n (some ⟨ib, 0, none⟩) inv.length inv (s.rdH (k := 2) rfl) (.inl hinv') hm; rw [d1] at q; dsimp only at q; exact q
      rintro w1 v w2 s ⟨e6, A6, c6, rfl, ho6, t⟩
      refine ⟨_, _, s.comp0 t, ?_⟩
      by_cases hn0 : n < 0
      · repeat (first | refine st ?_ | (refine sa ?_; intro _))
        exact VE_ret1 rfl rfl (fun w s => ⟨_, rfl, rfl, s.drop⟩)
      · have hn1 : c.buckets ≤ n := by omega
        repeat (first | refine st ?_ | (refine sa ?_; intro _))
        exact VE_ret1 rfl rfl (fun w s => ⟨_, rfl, rfl, s.drop⟩)
end Go.Proofs.YtpboahlpgfglkaaDoor.X
