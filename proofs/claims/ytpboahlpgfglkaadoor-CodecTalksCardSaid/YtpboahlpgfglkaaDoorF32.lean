/-
  Contract: the statement CodecTalks.
-/
import Derived.Test.YtpboahlpgfglkaaDoorF31
namespace Go.Proofs.YtpboahlpgfglkaaDoor.X
open Go Go.RowKit
set_option linter.unusedVariables false
set_option linter.unusedSimpArgs false
set_option maxRecDepth 100000

theorem talkReq_le (c : Cfg) (d l : List UInt8) (hd : d.length = 16) : (talkReq c d l).1.length ≤ 1000 := by
  unfold talkReq
  by_cases hg : c.good
  · rw [if_pos hg]
    unfold Cfg.good at hg
    split <;> simp <;> omega
  · rw [if_neg hg]; simp
theorem talkRep_le (c : Cfg) (b : Bool) (l : List UInt8) : (talkRep c b l).1.length ≤ 1000 := by
  unfold talkRep
  by_cases hg : c.good
  · rw [if_pos hg]
    unfold Cfg.good at hg
    split
    · cases b <;> simp <;> omega
    · simp
  · rw [if_neg hg]; simp
theorem talkParsed_le (c : Cfg) (l : List UInt8) : (talkParsed c l).2.1.length ≤ 1000 := by
  unfold talkParsed
  by_cases hg : c.good
  · rw [if_pos hg]
    unfold Cfg.good at hg
    split <;> simp <;> omega
  · rw [if_neg hg]; simp
theorem repParsed_le (c : Cfg) (l : List UInt8) : (repParsed c l).2.1.length ≤ 1000 := by
  unfold repParsed
  by_cases hg : c.good
  · rw [if_pos hg]
    unfold Cfg.good at hg
    split
    · cases l with
      | nil => simp
      | cons x r => dsimp only; split <;> simp at * <;> omega
    · simp
  · rw [if_neg hg]; simp

set_option maxHeartbeats 8000000 in
theorem codecTalks (w : World) (x : TalkA) (hx : x.ok w) :
    Calls Tryd.prog 4 #[x.val] w (Ret fun v w' => v = .bool true ∧ St w [] [] w') := by
  obtain ⟨c, d, th, mr, br⟩ := x
  have cC := TalkA.cellsC ⟨c, d, th, mr, br⟩
  have cD := TalkA.cellsD ⟨c, d, th, mr, br⟩ hx.d16
  have c3 := TalkA.cells3 ⟨c, d, th, mr, br⟩ hx.d16
  obtain ⟨hd, hmr, hbr, hmc, hbc, hml, hbl, hm⟩ := hx
  dsimp only at hd hmr hbr hmc hbc hml hbl hm cC cD c3
  have hd' : (d.map u8).length = 16 := by rw [List.length_map]; exact hd
  refine enter (args := [_]) Tryd.func4 rfl rfl rfl ?_
  repeat (first | refine st ?_ | (refine sa ?_; intro _))
  rename_i xb
  obtain ⟨XX, hXX⟩ : ∃ XX : Ent, XX = Blk xb (TalkA.cells ⟨c, d, th, mr, br⟩) 34 := ⟨_, rfl⟩
  have xC : ∀ (w1 : World) (H : List Ent), St w [] (XX :: H) w1 → At w1 xb (0 + 0) c.cells := fun w1 H s => by subst hXX; exact s.atH (k := 0) rfl cC
  have xD : ∀ (w1 : World) (H : List Ent), St w [] (XX :: H) w1 → At w1 xb (0 + 6) (d.map u8) := fun w1 H s => by subst hXX; exact s.atH (k := 0) rfl cD
  have xT : ∀ (w1 : World) (H : List Ent), St w [] (XX :: H) w1 → w1.cell? ⟨xb, 0 + 22, none⟩ = some (.bool th) := fun w1 H s => by subst hXX; exact s.cell (k := 0) rfl (c3 0)
  have xM : ∀ (w1 : World) (H : List Ent), St w [] (XX :: H) w1 → w1.cell? ⟨xb, 0 + 23, none⟩ = some mr.val := fun w1 H s => by subst hXX; exact s.cell (k := 0) rfl (c3 1)
  have xB : ∀ (w1 : World) (H : List Ent), St w [] (XX :: H) w1 → w1.cell? ⟨xb, 0 + 24, none⟩ = some br.val := fun w1 H s => by subst hXX; exact s.cell (k := 0) rfl (c3 2)
  have inI : ∀ (l : List UInt8) (ib : Nat) (w1 : World) (H : List Ent), St w [] (XX :: Blk ib ((l ++ marks l.length).map u8) 5 :: H) w1 → Rd w1 (some ⟨ib, 0, none⟩) (l.map u8) := fun l ib w1 H s => by
    have := s.rdH (k := 1) rfl
    rw [List.map_append] at this
    exact this.append
  refine VL_H (M' := []) (H' := [XX]) (fun w s => by rw [hXX]; exact s) ?_
  clear hXX cC cD c3
  repeat (first | refine st ?_ | (refine sa ?_; intro _))
  apply VL_load; exact .none; exact rfl; exact rfl; exact fun w s => xM w _ s; exact rfl
  apply VL_call; exact .none; exact rfl; exact rfl
  · intro w1 s; exact spare w1 mr.A mr.c mr.l (s.rd hmr) (by omega)
  rintro w1 v w2 s ⟨ib, rfl, t⟩
  refine ⟨_, _, s.comp0 t, ?_⟩
  repeat (first | refine st ?_ | (refine sa ?_; intro _))
  apply VL_loadA (cs := c.cells); exact .none; exact rfl; exact rfl; exact rfl; exact fun w s => xC w _ s; exact rfl
  repeat (first | refine st ?_ | (refine sa ?_; intro _))
  apply VL_loadA (cs := d.map u8); exact .none; exact rfl; exact rfl; exact hd'; exact fun w s => xD w _ s; exact rfl
  repeat (first | refine st ?_ | (refine sa ?_; intro _))
  apply VL_call; exact .none; exact rfl; exact rfl
  · intro w1 s; exact talkRequest w1 c d hd (some ⟨ib, 0, none⟩) (mr.l.length + 80) mr.l (inI _ _ w1 _ s) hm
  rintro w1 v w2 s ⟨e1, A1, c1, rfl, h1, t⟩
  refine ⟨_, _, s.comp0 t, ?_⟩
  repeat (first | refine st ?_ | (refine sa ?_; intro _))
  apply VL_loadA (cs := c.cells); exact .none; exact rfl; exact rfl; exact rfl; exact fun w s => xC w _ s; exact rfl
  repeat (first | refine st ?_ | (refine sa ?_; intro _))
  apply VL_loadA (cs := d.map u8); exact .none; exact rfl; exact rfl; exact hd'; exact fun w s => xD w _ s; exact rfl
  repeat (first | refine st ?_ | (refine sa ?_; intro _))
  apply VL_call; exact .none; exact rfl; exact rfl
  · intro w1 s; exact talkRequest w1 c d hd (some ⟨ib, 0, none⟩) (mr.l.length + 80) mr.l (inI _ _ w1 _ s) hm
  rintro w1 v w2 s ⟨e2, A2, c2, rfl, h2, t⟩
  refine ⟨_, _, s.comp0 t, ?_⟩
  repeat (first | refine st ?_ | (refine sa ?_; intro _))
  apply VL_loadA (cs := c.cells); exact .none; exact rfl; exact rfl; exact rfl; exact fun w s => xC w _ s; exact rfl
  repeat (first | refine st ?_ | (refine sa ?_; intro _))
  apply VL_loadA (cs := d.map u8); exact .none; exact rfl; exact rfl; exact hd'; exact fun w s => xD w _ s; exact rfl
  repeat (first | refine st ?_ | (refine sa ?_; intro _))
  apply VL_load; exact .none; exact rfl; exact rfl; exact fun w s => xM w _ s; exact rfl
  apply VL_call; exact .none; exact rfl; exact rfl
  · intro w1 s; exact refTalkRequest w1 c d hd mr.A mr.c mr.l (s.rd hmr)
  rintro w1 v w2 s ⟨e3, A3, c3, rfl, h3, t⟩
  refine ⟨_, _, s.comp0 t, ?_⟩
  repeat (first | refine st ?_ | (refine sa ?_; intro _))
  apply VL_load; exact .yes rfl rfl; exact rfl; exact rfl; exact fun w s => xM w _ s; exact rfl
  refine VL_pick [2, 3, 0, 1, 4] (by decide) ?_
  apply VL_call; exact .yes rfl rfl; exact rfl; exact rfl
  · intro w1 s; exact twice w w1 e1 e2 A1 A2 A3 (some ⟨ib, 0, none⟩) mr.A c1 c2 c3 (mr.l.length + 80) mr.c _ mr.l [XX, Blk ib ((mr.l ++ marks mr.l.length).map u8) 5, e3] s h1 h2 (fun w' s => s.rdO (k := 4) rfl h3) (fun w' s => s.rdH (k := 1) rfl) (Nat.le_refl _) hmr (by have := talkReq_le c d mr.l hd; omega) (by omega)
  rintro w1 v w2 s ⟨rfl, t⟩
  refine ⟨[], _, t, ?_⟩
  refine VL_H (M' := []) (H' := [XX, Blk ib ((mr.l ++ marks mr.l.length).map u8) 5]) (fun w s => s.pick [0, 1] (by decide)) ?_
  clear h1 h2 h3
  repeat (first | refine st ?_ | (refine sa ?_; intro _))
  apply VL_loadA (cs := c.cells); exact .none; exact rfl; exact rfl; exact rfl; exact fun w s => xC w _ s; exact rfl
  repeat (first | refine st ?_ | (refine sa ?_; intro _))
  apply VL_load; exact .none; exact rfl; exact rfl; exact fun w s => xT w _ s; exact rfl
  repeat (first | refine st ?_ | (refine sa ?_; intro _))
  apply VL_call; exact .none; exact rfl; exact rfl
  · intro w1 s; exact talkReply w1 c th (some ⟨ib, 0, none⟩) (mr.l.length + 80) mr.l (inI _ _ w1 _ s) hm
  rintro w1 v w2 s ⟨e1, A1, c1, rfl, h1, t⟩
  refine ⟨_, _, s.comp0 t, ?_⟩
  repeat (first | refine st ?_ | (refine sa ?_; intro _))
  apply VL_loadA (cs := c.cells); exact .none; exact rfl; exact rfl; exact rfl; exact fun w s => xC w _ s; exact rfl
  repeat (first | refine st ?_ | (refine sa ?_; intro _))
  apply VL_load; exact .none; exact rfl; exact rfl; exact fun w s => xT w _ s; exact rfl
  repeat (first | refine st ?_ | (refine sa ?_; intro _))
  apply VL_call; exact .none; exact rfl; exact rfl
  · intro w1 s; exact talkReply w1 c th (some ⟨ib, 0, none⟩) (mr.l.length + 80) mr.l (inI _ _ w1 _ s) hm
  rintro w1 v w2 s ⟨e2, A2, c2, rfl, h2, t⟩
  refine ⟨_, _, s.comp0 t, ?_⟩
  repeat (first | refine st ?_ | (refine sa ?_; intro _))
  apply VL_loadA (cs := c.cells); exact .none; exact rfl; exact rfl; exact rfl; exact fun w s => xC w _ s; exact rfl
  repeat (first | refine st ?_ | (refine sa ?_; intro _))
  apply VL_load; exact .none; exact rfl; exact rfl; exact fun w s => xT w _ s; exact rfl
  repeat (first | refine st ?_ | (refine sa ?_; intro _))
  apply VL_load; exact .none; exact rfl; exact rfl; exact fun w s => xM w _ s; exact rfl
  apply VL_call; exact .none; exact rfl; exact rfl
  · intro w1 s; exact refTalkReply w1 c th mr.A mr.c mr.l (s.rd hmr)
  rintro w1 v w2 s ⟨e3, A3, c3, rfl, h3, t⟩
  refine ⟨_, _, s.comp0 t, ?_⟩
  repeat (first | refine st ?_ | (refine sa ?_; intro _))
  apply VL_load; exact .yes rfl rfl; exact rfl; exact rfl; exact fun w s => xM w _ s; exact rfl
  refine VL_pick [2, 3, 0, 1, 4] (by decide) ?_
  apply VL_call; exact .yes rfl rfl; exact rfl; exact rfl
  · intro w1 s; exact twice w w1 e1 e2 A1 A2 A3 (some ⟨ib, 0, none⟩) mr.A c1 c2 c3 (mr.l.length + 80) mr.c _ mr.l [XX, Blk ib ((mr.l ++ marks mr.l.length).map u8) 5, e3] s h1 h2 (fun w' s => s.rdO (k := 4) rfl h3) (fun w' s => s.rdH (k := 1) rfl) (Nat.le_refl _) hmr (by have := talkRep_le c th mr.l; omega) (by omega)
  rintro w1 v w2 s ⟨rfl, t⟩
  refine ⟨[], _, t, ?_⟩
  refine VL_H (M' := []) (H' := [XX, Blk ib ((mr.l ++ marks mr.l.length).map u8) 5]) (fun w s => s.pick [0, 1] (by decide)) ?_
  clear h1 h2 h3
  repeat (first | refine st ?_ | (refine sa ?_; intro _))
  refine VL_H (M' := []) (H' := [XX]) (fun w s => s.pick [0] (by decide)) ?_
  apply VL_load; exact .none; exact rfl; exact rfl; exact fun w s => xB w _ s; exact rfl
  apply VL_call; exact .none; exact rfl; exact rfl
  · intro w1 s; exact spare w1 br.A br.c br.l (s.rd hbr) (by omega)
  rintro w1 v w2 s ⟨ib, rfl, t⟩
  refine ⟨_, _, s.comp0 t, ?_⟩
  repeat (first | refine st ?_ | (refine sa ?_; intro _))
  apply VL_loadA (cs := c.cells); exact .none; exact rfl; exact rfl; exact rfl; exact fun w s => xC w _ s; exact rfl
  repeat (first | refine st ?_ | (refine sa ?_; intro _))
  apply VL_call; exact .none; exact rfl; exact rfl
  · intro w1 s; exact parseTalk w1 c (some ⟨ib, 0, none⟩) (br.l.length + 80) br.l (inI _ _ w1 _ s) (by omega) hm
  rintro w1 v w2 s ⟨e1, A1, c1, rfl, h1, t⟩
  refine ⟨_, _, s.comp0 t, ?_⟩
  have hp16 := talkParsed_len c br.l
  have hp16' : ((talkParsed c br.l).1.map u8).length = 16 := by rw [List.length_map]; exact hp16
  repeat (first | refine st ?_ | (refine sa ?_; intro _))
  rename_i da
  apply VL_storeW (k := 3); exact .none; exact rfl; exact rfl; exact rfl; exact hp16'; exact all_u8 _; exact rfl; exact rfl; exact NF.zero _
  repeat (first | refine st ?_ | (refine sa ?_; intro _))
  apply VL_loadA (cs := c.cells); exact .none; exact rfl; exact rfl; exact rfl; exact fun w s => xC w _ s; exact rfl
  repeat (first | refine st ?_ | (refine sa ?_; intro _))
  apply VL_call; exact .none; exact rfl; exact rfl
  · intro w1 s; exact parseTalk w1 c (some ⟨ib, 0, none⟩) (br.l.length + 80) br.l (inI _ _ w1 _ s) (by omega) hm
  rintro w1 v w2 s ⟨e2, A2, c2, rfl, h2, t⟩
  refine ⟨_, _, s.comp0 t, ?_⟩
  repeat (first | refine st ?_ | (refine sa ?_; intro _))
  apply VL_loadA (cs := c.cells); exact .none; exact rfl; exact rfl; exact rfl; exact fun w s => xC w _ s; exact rfl
  repeat (first | refine st ?_ | (refine sa ?_; intro _))
  apply VL_load; exact .none; exact rfl; exact rfl; exact fun w s => xB w _ s; exact rfl
  apply VL_call; exact .none; exact rfl; exact rfl
  · intro w1 s; exact refParseTalk w1 c br.A br.c br.l (s.rd hbr) hbc hm
  rintro w1 v w2 s ⟨e3, A3, c3, rfl, h3, t⟩
  refine ⟨_, _, s.comp0 t, ?_⟩
  repeat (first | refine st ?_ | (refine sa ?_; intro _))
  rename_i dw
  apply VL_storeW (k := 6); exact .none; exact rfl; exact rfl; exact rfl; exact hp16'; exact all_u8 _; exact rfl; exact rfl; exact NF.zero _
  repeat (first | refine st ?_ | (refine sa ?_; intro _))
  apply VL_loadW (k := 3); exact .none; exact rfl; exact rfl; exact rfl; exact hp16'; exact rfl
  apply VL_loadW (k := 6); exact .none; exact rfl; exact rfl; exact rfl; exact hp16'; exact rfl
  apply VL_neA; exact .none; exact rfl; exact rfl; exact dropSame _ hp16; exact dropGuard; exact rfl
  repeat (first | refine st ?_ | (refine sa ?_; intro _))
  apply VL_load; exact .yes rfl rfl; exact rfl; exact rfl; exact fun w s => xB w _ s; exact rfl
  refine VL_pick [2, 4, 0, 1, 5] (by decide) ?_
  apply VL_call; exact .yes rfl rfl; exact rfl; exact rfl
  · intro w1 s; exact twice w w1 e1 e2 A1 A2 A3 (some ⟨ib, 0, none⟩) br.A c1 c2 c3 (br.l.length + 80) br.c _ br.l [XX, Blk ib ((br.l ++ marks br.l.length).map u8) 5, e3] s h1 h2 (fun w' s => s.rdO (k := 4) rfl h3) (fun w' s => s.rdH (k := 1) rfl) (Nat.le_refl _) hbr (by have := talkParsed_le c br.l; omega) (by omega)
  rintro w1 v w2 s ⟨rfl, t⟩
  refine ⟨[], _, t, ?_⟩
  refine VL_H (M' := []) (H' := [XX, Blk ib ((br.l ++ marks br.l.length).map u8) 5]) (fun w s => s.pick [0, 1] (by decide)) ?_
  clear h1 h2 h3
  repeat (first | refine st ?_ | (refine sa ?_; intro _))
  apply VL_loadA (cs := c.cells); exact .none; exact rfl; exact rfl; exact rfl; exact fun w s => xC w _ s; exact rfl
  repeat (first | refine st ?_ | (refine sa ?_; intro _))
  apply VL_call; exact .none; exact rfl; exact rfl
  · intro w1 s; exact parseReply w1 c (some ⟨ib, 0, none⟩) (br.l.length + 80) br.l (inI _ _ w1 _ s) (by omega) hm
  rintro w1 v w2 s ⟨e1, A1, c1, rfl, h1, t⟩
  refine ⟨_, _, s.comp0 t, ?_⟩
  repeat (first | refine st ?_ | (refine sa ?_; intro _))
  apply VL_loadA (cs := c.cells); exact .none; exact rfl; exact rfl; exact rfl; exact fun w s => xC w _ s; exact rfl
  repeat (first | refine st ?_ | (refine sa ?_; intro _))
  apply VL_call; exact .none; exact rfl; exact rfl
  · intro w1 s; exact parseReply w1 c (some ⟨ib, 0, none⟩) (br.l.length + 80) br.l (inI _ _ w1 _ s) (by omega) hm
  rintro w1 v w2 s ⟨e2, A2, c2, rfl, h2, t⟩
  refine ⟨_, _, s.comp0 t, ?_⟩
  repeat (first | refine st ?_ | (refine sa ?_; intro _))
  apply VL_loadA (cs := c.cells); exact .none; exact rfl; exact rfl; exact rfl; exact fun w s => xC w _ s; exact rfl
  repeat (first | refine st ?_ | (refine sa ?_; intro _))
  apply VL_load; exact .none; exact rfl; exact rfl; exact fun w s => xB w _ s; exact rfl
  apply VL_call; exact .none; exact rfl; exact rfl
  · intro w1 s; exact refParseReply w1 c br.A br.c br.l (s.rd hbr) hbc hm
  rintro w1 v w2 s ⟨e3, A3, c3, rfl, h3, t⟩
  refine ⟨_, _, s.comp0 t, ?_⟩
  repeat (first | refine st ?_ | (refine sa ?_; intro _))
  apply VL_eqB; exact .none; exact rfl; exact rfl; exact rfl
  rw [show ((repParsed c br.l).1 == (repParsed c br.l).1) = true from by simp]
  repeat (first | refine st ?_ | (refine sa ?_; intro _))
  apply VL_load; exact .yes rfl rfl; exact rfl; exact rfl; exact fun w s => xB w _ s; exact rfl
  refine VL_pick [2, 3, 0, 1, 4] (by decide) ?_
  apply VL_call; exact .yes rfl rfl; exact rfl; exact rfl
  · intro w1 s; exact twice w w1 e1 e2 A1 A2 A3 (some ⟨ib, 0, none⟩) br.A c1 c2 c3 (br.l.length + 80) br.c _ br.l [XX, Blk ib ((br.l ++ marks br.l.length).map u8) 5, e3] s h1 h2 (fun w' s => s.rdO (k := 4) rfl h3) (fun w' s => s.rdH (k := 1) rfl) (Nat.le_refl _) hbr (by have := repParsed_le c br.l; omega) (by omega)
  rintro w1 v w2 s ⟨rfl, t⟩
  refine ⟨[], _, t, ?_⟩
  refine VL_H (M' := []) (H' := [XX, Blk ib ((br.l ++ marks br.l.length).map u8) 5]) (fun w s => s.pick [0, 1] (by decide)) ?_
  clear h1 h2 h3
  repeat (first | refine st ?_ | (refine sa ?_; intro _))
  exact VE_ret1 rfl rfl (fun w s => ⟨_, rfl, rfl, s.drop⟩)
end Go.Proofs.YtpboahlpgfglkaaDoor.X
