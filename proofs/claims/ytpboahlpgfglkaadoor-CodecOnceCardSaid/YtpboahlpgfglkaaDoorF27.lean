/-
  Contract: the statement CodecOnce.
-/
import Derived.Test.YtpboahlpgfglkaaDoorF27a
namespace Go.Proofs.YtpboahlpgfglkaaDoor.X
open Go Go.RowKit
set_option linter.unusedVariables false
set_option linter.unusedSimpArgs false
set_option maxRecDepth 100000

theorem list0 {l : List UInt8} {e : Ent} {A : Option Addr} {c : Nat} (h : OwnSl e A c 5 (l.map u8)) : l.length ≤ c := by simpa using h.le
set_option maxHeartbeats 8000000 in
theorem codecOnce (w : World) (x : TalkA) (hx : x.ok w) :
    Calls Tryd.prog 12 #[x.val] w (Ret fun v w' => v = .bool true ∧ St w [] [] w') := by
  obtain ⟨c, d, th, mr, br⟩ := x
  have cC := TalkA.cellsC ⟨c, d, th, mr, br⟩
  have c3 := TalkA.cells3 ⟨c, d, th, mr, br⟩ hx.d16
  obtain ⟨hd, hmr, hbr, hmc, hbc, hml, hbl, hm⟩ := hx
  dsimp only at hd hmr hbr hmc hbc hml hbl hm cC c3
  refine enter (args := [_]) Tryd.func12 rfl rfl rfl ?_
  repeat (first | refine st ?_ | (refine sa ?_; intro _))
  rename_i xb
  apply VL_call; exact .none; exact rfl; exact rfl
  · intro w1 s; exact awake w1
  rintro w1 v w2 s ⟨rfl, t⟩
  refine ⟨_, _, s.comp t, ?_⟩
  repeat (first | refine st ?_ | (refine sa ?_; intro _))
  apply VL_loadA (cs := c.cells); exact .none; exact rfl; exact rfl; exact rfl; exact fun w s => s.atH (k := 0) rfl cC; exact rfl
  repeat (first | refine st ?_ | (refine sa ?_; intro _))
  rename_i cb
  apply VL_storeW (k := 1); exact .none; exact rfl; exact rfl; exact rfl; exact rfl; exact rfl; exact rfl; exact rfl; exact NF.zero _
  repeat (first | refine st ?_ | (refine sa ?_; intro _))
  apply VL_loadW (k := 1); (first | exact .none | exact .yes rfl rfl); exact rfl; exact rfl; exact rfl; exact rfl; exact rfl
  obtain ⟨XX, hXX⟩ : ∃ XX : Ent, XX = Blk xb (TalkA.cells ⟨c, d, th, mr, br⟩) 34 := ⟨_, rfl⟩
  have bcell : ∀ (w1 : World) (H : List Ent), St w [] (XX :: H) w1 → w1.cell? ⟨xb, 0 + 24, none⟩ = some br.val := fun w1 H s => by subst hXX; exact s.cell (k := 0) rfl (c3 2)
  apply VL_call; exact .none; exact rfl; exact rfl
  · intro w1 s; exact check w1 c hm
  rintro w1 v w2 s ⟨rfl, t⟩
  refine ⟨_, _, s.comp t, ?_⟩
  repeat (first | refine st ?_ | (refine sa ?_; intro _))
  refine VC_cut ⟨fun c' : Cfg => c'.good, fun c' => [(1, .pointer (some ⟨xb, 0, none⟩)), (3, .pointer (some ⟨cb, 0, none⟩))], fun _ => [], fun c' => [XX, Blk cb c'.cells 29]⟩ ?_ ?_
  · refine VC_cond_d rfl (fun h => ?_) (fun h => ?_)
    · repeat (first | refine st ?_ | (refine sa ?_; intro _))
      apply VL_call; exact .none; exact rfl; exact rfl
      · intro w1 s; exact small w1
      rintro w1 v w2 s ⟨rfl, t⟩
      refine ⟨_, _, s.comp t, ?_⟩
      apply VL_storeW (k := 1); exact .none; exact rfl; exact rfl; exact rfl; exact rfl; exact rfl; exact rfl; exact rfl; exact NF.zero _
      repeat (first | refine st ?_ | (refine sa ?_; intro _))
      exact VE_fam smallCfg small4 trivial ⟨rfl, rfl, trivial⟩ (fun _ s => by rw [hXX]; exact s)
    · repeat (first | refine st ?_ | (refine sa ?_; intro _))
      refine VE_fam c ?_ trivial ⟨rfl, rfl, trivial⟩ (fun _ s => by rw [hXX]; exact s)
      by_cases hg : c.good
      · exact hg
      · rw [if_neg hg] at h; simp at h
  intro c' hg
  dsimp only at hg ⊢
  clear hm cC c3 hXX
  have hg' := hg
  unfold Cfg.good at hg'
  have hm : -9223372036854775808 ≤ c'.message ∧ c'.message ≤ 9223372036854775807 := by omega
  repeat (first | refine st ?_ | (refine sa ?_; intro _))
  apply VL_load; exact .none; exact rfl; exact rfl; exact fun w s => bcell w _ s; exact rfl
  apply VL_call; exact .none; exact rfl; exact rfl
  · intro w1 s; exact copyBytes w1 br.A br.c br.l (s.rd hbr) (by omega)
  rintro w1 v w2 s ⟨e1, A1, c1, rfl, h1, t⟩
  refine ⟨_, _, s.comp0 t, ?_⟩
  apply VL_call; exact .none; exact rfl; exact rfl
  · intro w1 s; exact parseConfig w1 A1 c1 br.l (s.rdO (k := 2) rfl h1) (by omega)
  rintro w1 v w2 s ⟨rfl, t⟩
  refine ⟨_, _, s.comp t, ?_⟩
  have hpm := cfg_msg br.l
  have honce := @cfg_once br.l
  obtain ⟨⟨pc, pe⟩, hq⟩ : ∃ q, parseCfg br.l = q := ⟨_, rfl⟩
  rw [hq] at honce hpm ⊢
  dsimp only at honce hpm ⊢
  repeat (first | refine st ?_ | (refine sa ?_; intro _))
  rename_i db
  apply VL_storeW (k := 3) (vs := pc.cells); exact .none; exact rfl; exact rfl; exact rfl; exact rfl; exact rfl; exact rfl; exact rfl; exact NF.zero _
  repeat (first | refine st ?_ | (refine sa ?_; intro _))
  refine VC_cut ⟨fun _ : Unit => True, fun _ => [(1, .pointer (some ⟨xb, 0, none⟩)), (3, .pointer (some ⟨cb, 0, none⟩))], fun _ => [], fun _ => [XX, Blk cb c'.cells 29]⟩ ?_ ?_
  · refine VC_cond_d rfl (fun h => ?_) (fun h => ?_)
    · repeat (first | refine st ?_ | (refine sa ?_; intro _))
      apply VL_loadW (k := 3); (first | exact .none | exact .yes rfl rfl); exact rfl; exact rfl; exact rfl; exact rfl; exact rfl
      apply VL_call; exact .none; exact rfl; exact rfl
      · intro w1 s; have q := putConfig w1 pc hpm; rw [honce h] at q; dsimp only at q; exact q
      rintro w1 v w2 s ⟨e2, A2, c2, rfl, h2, t⟩
      refine ⟨_, _, s.comp0 t, ?_⟩
      repeat (first | refine st ?_ | (refine sa ?_; intro _))
      apply VL_load; exact .yes rfl rfl; exact rfl; exact rfl; exact fun w s => bcell w _ s; exact rfl
      apply VL_call; exact .yes rfl rfl; exact rfl; exact rfl
      · intro w1 s; exact eqT w1 A2 br.A c2 br.c br.l (s.rdO (k := 4) rfl h2) (s.rd hbr) (by omega)
      rintro w1 v w2 s ⟨rfl, t⟩
      refine ⟨_, _, s.comp t, ?_⟩
      repeat (first | refine st ?_ | (refine sa ?_; intro _))
      exact VE_fam () trivial trivial ⟨rfl, rfl, trivial⟩ (fun _ s => s.pick [0, 1] (by decide))
    · repeat (first | refine st ?_ | (refine sa ?_; intro _))
      exact VE_fam () trivial trivial ⟨rfl, rfl, trivial⟩ (fun _ s => s.pick [0, 1] (by decide))
  intro _ _
  dsimp only

  have hd16 : ((talkParsed c' br.l).1.map u8).length = 16 := by rw [List.length_map]; exact talkParsed_len c' br.l
  repeat (first | refine st ?_ | (refine sa ?_; intro _))
  refine VC_cut ⟨fun i : Nat × Ent × Option Addr × Nat => OwnSl i.2.1 i.2.2.1 i.2.2.2 5 ((talkParsed c' br.l).2.1.map u8), fun i => [(1, .pointer (some ⟨xb, 0, none⟩)), (3, .pointer (some ⟨cb, 0, none⟩)), (5, i64 (talkParsed c' br.l).2.2), (8, .pointer (some ⟨i.1, 0, none⟩)), (9, .slice i.2.2.1 (talkParsed c' br.l).2.1.length i.2.2.2)], fun _ => [], fun i => [XX, Blk cb c'.cells 29, Blk i.1 ((talkParsed c' br.l).1.map u8) 31, i.2.1]⟩ ?_ ?_
  · refine VC_draw (S := (fun w' => St w [] [XX, Blk cb c'.cells 29] w')) mixed (fun _ s => s) ?_
    refine tk 0 ?_
    refine tk 1 ?_
    refine tk (v := br.val) 2 ?_ (hS := fun w1 h1 => ⟨_, h1, Y_load rfl rfl (fun w2 s2 => bcell w2 _ s2)⟩)
    apply VA_two 3 9; exact rfl; exact rfl; kernel_rfl
    · apply VL_call; exact .none; exact rfl; exact rfl
      · intro w1 s; exact copyBytes w1 br.A br.c br.l (s.rd hbr) (by omega)
      rintro w1 v w2 s ⟨e1, A1, c1, rfl, h1, t⟩
      refine ⟨_, _, s.comp0 t, VL_nil (VA_back (fun w s => s.pick [0, 1] (by decide)) ?_)⟩
      apply VA_two 4 9; exact rfl; exact rfl; kernel_rfl
      · apply VL_call; exact .none; exact rfl; exact rfl
        · intro w1 s; exact parseTalk w1 c' A1 c1 br.l (s.rdO (k := 2) rfl h1) (list0 h1) hm
        rintro w1 v w2 s ⟨e2, A2, c2, rfl, h2, t⟩
        refine ⟨_, _, s.comp0 t, VL_nil (VA_back (fun w s => s.pick [0, 1] (by decide)) ?_)⟩
        refine tk 5 ?_
        refine tk 6 ?_
        refine tk 7 ?_
        refine tk 8 ?_
        apply VA_step 9; exact rfl; kernel_rfl
        apply VL_alloc; exact .none; exact rfl; exact rfl
        intro ab
        refine VL_nil (VA_back (fun w s => s.pick [0, 1] (by decide)) ?_)
        apply VA_step 10; exact rfl; kernel_rfl
        apply VL_storeW (k := 4); exact .none; exact rfl; exact rfl; exact rfl; exact hd16; exact all_u8 _; exact rfl; exact rfl; exact NF.zero _
        refine VL_nil (VA_back (fun w s => s.pick [0, 1] (by decide)) ?_)
        refine tk 11 ?_
        refine tk 12 ?_
        exact VA_done (by kernel_rfl) (VE_fam (ab, e2, A2, c2) h2 trivial ⟨rfl, rfl, rfl, rfl, rfl, trivial⟩ (fun _ s => s.pick [0, 1, 4, 3] (by decide)))
      · apply VL_alloc; exact .none; exact rfl; exact rfl
        intro ab
        refine VL_nil (VA_back (fun w s => s.pick [0, 1] (by decide)) ?_)
        apply VA_step 4; exact rfl; kernel_rfl
        apply VL_call; exact .none; exact rfl; exact rfl
        · intro w1 s; exact parseTalk w1 c' A1 c1 br.l (s.rdO (k := 2) rfl h1) (list0 h1) hm
        rintro w1 v w2 s ⟨e2, A2, c2, rfl, h2, t⟩
        refine ⟨_, _, s.comp0 t, VL_nil (VA_back (fun w s => s.pick [0, 1] (by decide)) ?_)⟩
        refine tk 5 ?_
        refine tk 6 ?_
        refine tk 7 ?_
        refine tk 8 ?_
        apply VA_step 10; exact rfl; kernel_rfl
        apply VL_storeW (k := 3); exact .none; exact rfl; exact rfl; exact rfl; exact hd16; exact all_u8 _; exact rfl; exact rfl; exact NF.zero _
        refine VL_nil (VA_back (fun w s => s.pick [0, 1] (by decide)) ?_)
        refine tk 11 ?_
        refine tk 12 ?_
        exact VA_done (by kernel_rfl) (VE_fam (ab, e2, A2, c2) h2 trivial ⟨rfl, rfl, rfl, rfl, rfl, trivial⟩ (fun _ s => s.pick [0, 1, 3, 4] (by decide)))
    · apply VL_alloc; exact .none; exact rfl; exact rfl
      intro ab
      refine VL_nil (VA_back (fun w s => s.pick [0, 1] (by decide)) ?_)
      apply VA_step 3; exact rfl; kernel_rfl
      apply VL_call; exact .none; exact rfl; exact rfl
      · intro w1 s; exact copyBytes w1 br.A br.c br.l (s.rd hbr) (by omega)
      rintro w1 v w2 s ⟨e1, A1, c1, rfl, h1, t⟩
      refine ⟨_, _, s.comp0 t, VL_nil (VA_back (fun w s => s.pick [0, 1] (by decide)) ?_)⟩
      apply VA_step 4; exact rfl; kernel_rfl
      apply VL_call; exact .none; exact rfl; exact rfl
      · intro w1 s; exact parseTalk w1 c' A1 c1 br.l (s.rdO (k := 3) rfl h1) (list0 h1) hm
      rintro w1 v w2 s ⟨e2, A2, c2, rfl, h2, t⟩
      refine ⟨_, _, s.comp0 t, VL_nil (VA_back (fun w s => s.pick [0, 1] (by decide)) ?_)⟩
      refine tk 5 ?_
      refine tk 6 ?_
      refine tk 7 ?_
      refine tk 8 ?_
      apply VA_step 10; exact rfl; kernel_rfl
      apply VL_storeW (k := 2); exact .none; exact rfl; exact rfl; exact rfl; exact hd16; exact all_u8 _; exact rfl; exact rfl; exact NF.zero _
      refine VL_nil (VA_back (fun w s => s.pick [0, 1] (by decide)) ?_)
      refine tk 11 ?_
      refine tk 12 ?_
      exact VA_done (by kernel_rfl) (VE_fam (ab, e2, A2, c2) h2 trivial ⟨rfl, rfl, rfl, rfl, rfl, trivial⟩ (fun _ s => s.pick [0, 1, 2, 4] (by decide)))
  rintro ⟨ab, e2, A2, c2⟩ h2
  dsimp only at h2 ⊢
  have honce := @talk_once c' br.l
  have hd16' := talkParsed_len c' br.l
  obtain ⟨⟨td, tm, te⟩, hq⟩ : ∃ q, talkParsed c' br.l = q := ⟨_, rfl⟩
  rw [hq] at honce h2 hd16 hd16' ⊢
  dsimp only at honce h2 hd16 hd16' ⊢
  repeat (first | refine st ?_ | (refine sa ?_; intro _))
  refine VC_cut ⟨fun _ : Unit => True, fun _ => [(1, .pointer (some ⟨xb, 0, none⟩)), (3, .pointer (some ⟨cb, 0, none⟩))], fun _ => [], fun _ => [XX, Blk cb c'.cells 29]⟩ ?_ ?_
  · refine VC_cond_d rfl (fun h => ?_) (fun h => ?_)
    · repeat (first | refine st ?_ | (refine sa ?_; intro _))
      apply VL_loadW (k := 1); (first | exact .none | exact .yes rfl rfl); exact rfl; exact rfl; exact rfl; exact rfl; exact rfl
      apply VL_loadW (k := 2); exact .none; exact rfl; exact rfl; exact rfl; exact hd16; exact rfl
      repeat (first | refine st ?_ | (refine sa ?_; intro _))
      apply VL_call; exact .none; exact rfl; exact rfl
      · intro w1 s; have q := talkRequest w1 c' td hd16' A2 c2 tm (s.rdO (k := 3) rfl h2) hm; rw [honce h] at q; dsimp only at q; exact q
      rintro w1 v w2 s ⟨e3, A3, c3, rfl, h3, t⟩
      refine ⟨_, _, s.comp0 t, ?_⟩
      repeat (first | refine st ?_ | (refine sa ?_; intro _))
      apply VL_load; exact .yes rfl rfl; exact rfl; exact rfl; exact fun w s => bcell w _ s; exact rfl
      apply VL_call; exact .yes rfl rfl; exact rfl; exact rfl
      · intro w1 s; exact eqT w1 A3 br.A c3 br.c br.l (s.rdO (k := 4) rfl h3) (s.rd hbr) (by omega)
      rintro w1 v w2 s ⟨rfl, t⟩
      refine ⟨_, _, s.comp t, ?_⟩
      repeat (first | refine st ?_ | (refine sa ?_; intro _))
      exact VE_fam () trivial trivial ⟨rfl, rfl, trivial⟩ (fun _ s => s.pick [0, 1] (by decide))
    · repeat (first | refine st ?_ | (refine sa ?_; intro _))
      exact VE_fam () trivial trivial ⟨rfl, rfl, trivial⟩ (fun _ s => s.pick [0, 1] (by decide))
  intro _ _
  dsimp only
  clear h2 hq hd16 hd16' honce
  repeat (first | refine st ?_ | (refine sa ?_; intro _))
  refine VC_draw (S := (fun w' => St w [] [XX, Blk cb c'.cells 29] w')) mixed (fun _ s => s) ?_
  refine tk 0 ?_
  refine tk 1 ?_
  refine tk (v := br.val) 2 ?_ (hS := fun w1 h1 => ⟨_, h1, Y_load rfl rfl (fun w2 s2 => bcell w2 _ s2)⟩)
  apply VA_step 3; exact rfl; kernel_rfl
  apply VL_call; exact .none; exact rfl; exact rfl
  · intro w1 s; exact copyBytes w1 br.A br.c br.l (s.rd hbr) (by omega)
  rintro w1 v w2 s ⟨e1, A1, c1, rfl, h1, t⟩
  refine ⟨_, _, s.comp0 t, VL_nil (VA_back (fun w s => s.pick [0, 1] (by decide)) ?_)⟩
  apply VA_step 4; exact rfl; kernel_rfl
  apply VL_call; exact .none; exact rfl; exact rfl
  · intro w1 s; exact parseReply w1 c' A1 c1 br.l (s.rdO (k := 2) rfl h1) (list0 h1) hm
  rintro w1 v w2 s ⟨e2, A2, c2, rfl, h2, t⟩
  refine ⟨_, _, s.comp0 t, VL_nil (VA_back (fun w s => s.pick [0, 1] (by decide)) ?_)⟩
  refine tk 5 ?_
  refine tk 6 ?_
  refine tk 7 ?_
  refine tk 8 ?_
  refine tk 9 ?_
  refine tk 10 ?_
  refine tk 11 ?_
  refine VA_done (by kernel_rfl) ?_
  have honce := @rep_once c' br.l
  obtain ⟨⟨tb, tm, te⟩, hq⟩ : ∃ q, repParsed c' br.l = q := ⟨_, rfl⟩
  rw [hq] at honce h2 ⊢
  dsimp only at honce h2 ⊢
  repeat (first | refine st ?_ | (refine sa ?_; intro _))
  refine VC_cut ⟨fun _ : Unit => True, fun _ => [(1, .pointer (some ⟨xb, 0, none⟩)), (3, .pointer (some ⟨cb, 0, none⟩))], fun _ => [], fun _ => [XX, Blk cb c'.cells 29]⟩ ?_ ?_
  · refine VC_cond_d rfl (fun h => ?_) (fun h => ?_)
    · repeat (first | refine st ?_ | (refine sa ?_; intro _))
      apply VL_loadW (k := 1); (first | exact .none | exact .yes rfl rfl); exact rfl; exact rfl; exact rfl; exact rfl; exact rfl
      repeat (first | refine st ?_ | (refine sa ?_; intro _))
      apply VL_call; exact .none; exact rfl; exact rfl
      · intro w1 s; have q := talkReply w1 c' tb A2 c2 tm (s.rdO (k := 3) rfl h2) hm; rw [honce h] at q; dsimp only at q; exact q
      rintro w1 v w2 s ⟨e3, A3, c3, rfl, h3, t⟩
      refine ⟨_, _, s.comp0 t, ?_⟩
      repeat (first | refine st ?_ | (refine sa ?_; intro _))
      apply VL_load; exact .yes rfl rfl; exact rfl; exact rfl; exact fun w s => bcell w _ s; exact rfl
      apply VL_call; exact .yes rfl rfl; exact rfl; exact rfl
      · intro w1 s; exact eqT w1 A3 br.A c3 br.c br.l (s.rdO (k := 4) rfl h3) (s.rd hbr) (by omega)
      rintro w1 v w2 s ⟨rfl, t⟩
      refine ⟨_, _, s.comp t, ?_⟩
      repeat (first | refine st ?_ | (refine sa ?_; intro _))
      exact VE_fam () trivial trivial ⟨rfl, rfl, trivial⟩ (fun _ s => s.pick [0, 1] (by decide))
    · repeat (first | refine st ?_ | (refine sa ?_; intro _))
      exact VE_fam () trivial trivial ⟨rfl, rfl, trivial⟩ (fun _ s => s.pick [0, 1] (by decide))
  intro _ _
  dsimp only
  clear h2 hq honce h1
  repeat (first | refine st ?_ | (refine sa ?_; intro _))
  refine VC_draw (S := (fun w' => St w [] [XX, Blk cb c'.cells 29] w')) mixed (fun _ s => s) ?_
  refine tk 0 ?_
  refine tk 1 ?_
  refine tk (v := br.val) 2 ?_ (hS := fun w1 h1 => ⟨_, h1, Y_load rfl rfl (fun w2 s2 => bcell w2 _ s2)⟩)
  apply VA_step 3; exact rfl; kernel_rfl
  apply VL_call; exact .none; exact rfl; exact rfl
  · intro w1 s; exact copyBytes w1 br.A br.c br.l (s.rd hbr) (by omega)
  rintro w1 v w2 s ⟨e1, A1, c1, rfl, h1, t⟩
  refine ⟨_, _, s.comp0 t, VL_nil (VA_back (fun w s => s.pick [0, 1] (by decide)) ?_)⟩
  apply VA_step 4; exact rfl; kernel_rfl
  apply VL_call; exact .none; exact rfl; exact rfl
  · intro w1 s; exact parseDial w1 c' A1 c1 br.l (s.rdO (k := 2) rfl h1) hm
  rintro w1 v w2 s ⟨e2, A2, c2, rfl, h2, t⟩
  refine ⟨_, _, s.comp0 t, VL_nil (VA_back (fun w s => s.pick [0, 1] (by decide)) ?_)⟩
  refine tk 5 ?_
  refine tk 6 ?_
  refine tk 7 ?_
  refine tk 8 ?_
  refine tk 9 ?_
  refine tk 10 ?_
  refine tk 11 ?_
  refine VA_done (by kernel_rfl) ?_
  have honce := @dial_once c' br.l
  obtain ⟨⟨tn, tm, te⟩, hq⟩ : ∃ q, dialParsed c' br.l = q := ⟨_, rfl⟩
  rw [hq] at honce h2 ⊢
  dsimp only at honce h2 ⊢
  repeat (first | refine st ?_ | (refine sa ?_; intro _))
  refine VC_cut ⟨fun _ : Unit => True, fun _ => [(1, .pointer (some ⟨xb, 0, none⟩)), (3, .pointer (some ⟨cb, 0, none⟩))], fun _ => [], fun _ => [XX, Blk cb c'.cells 29]⟩ ?_ ?_
  · refine VC_cond_d rfl (fun h => ?_) (fun h => ?_)
    · repeat (first | refine st ?_ | (refine sa ?_; intro _))
      apply VL_loadW (k := 1); (first | exact .none | exact .yes rfl rfl); exact rfl; exact rfl; exact rfl; exact rfl; exact rfl
      repeat (first | refine st ?_ | (refine sa ?_; intro _))
      apply VL_call; exact .none; exact rfl; exact rfl
      · intro w1 s; have q := dialRequest w1 c' tn A2 c2 tm (s.rdO (k := 3) rfl h2) (.inl (honce h).2) hm; rw [(honce h).1] at q; dsimp only at q; exact q
      rintro w1 v w2 s ⟨e3, A3, c3, rfl, h3, t⟩
      refine ⟨_, _, s.comp0 t, ?_⟩
      repeat (first | refine st ?_ | (refine sa ?_; intro _))
      apply VL_load; exact .yes rfl rfl; exact rfl; exact rfl; exact fun w s => bcell w _ s; exact rfl
      apply VL_call; exact .yes rfl rfl; exact rfl; exact rfl
      · intro w1 s; exact eqT w1 A3 br.A c3 br.c br.l (s.rdO (k := 4) rfl h3) (s.rd hbr) (by omega)
      rintro w1 v w2 s ⟨rfl, t⟩
      refine ⟨_, _, s.comp t, ?_⟩
      repeat (first | refine st ?_ | (refine sa ?_; intro _))
      exact VE_fam () trivial trivial ⟨rfl, rfl, trivial⟩ (fun _ s => s.pick [0, 1] (by decide))
    · repeat (first | refine st ?_ | (refine sa ?_; intro _))
      exact VE_fam () trivial trivial ⟨rfl, rfl, trivial⟩ (fun _ s => s.pick [0, 1] (by decide))
  intro _ _
  dsimp only
  clear h2 hq honce h1
  repeat (first | refine st ?_ | (refine sa ?_; intro _))
  apply VL_load; exact .none; exact rfl; exact rfl; exact fun w s => bcell w _ s; exact rfl
  apply VL_call; exact .none; exact rfl; exact rfl
  · intro w1 s; exact copyBytes w1 br.A br.c br.l (s.rd hbr) (by omega)
  rintro w1 v w2 s ⟨e1, A1, c1, rfl, h1, t⟩
  refine ⟨_, _, s.comp0 t, ?_⟩
  apply VL_call; exact .none; exact rfl; exact rfl
  · intro w1 s; exact parseFrame w1 A1 c1 br.l (s.rdO (k := 2) rfl h1) (by omega)
  rintro w1 v w2 s ⟨e2, es, A2, c2, rs, rfl, h2, t⟩
  refine ⟨_, _, s.comp0 t, ?_⟩
  have honce := @frame_once br.l
  obtain ⟨⟨fn, fl, fe⟩, hq⟩ : ∃ q, frameParsed br.l = q := ⟨_, rfl⟩
  rw [hq] at honce h2 ⊢
  dsimp only at honce h2 ⊢
  repeat (first | refine st ?_ | (refine sa ?_; intro _))
  refine VC_cond_d rfl (fun h => ?_) (fun h => ?_)
  rotate_left
  · repeat (first | refine st ?_ | (refine sa ?_; intro _))
    exact VE_ret1 rfl rfl (fun w s => ⟨_, rfl, rfl, s.drop⟩)
  obtain ⟨k1, k2⟩ := honce h
  have hlr : rs.length = fl.length := h2.len
  have hrr : rs.map Row.l = fl := h2.2.2
  repeat (first | refine st ?_ | (refine sa ?_; intro _))
  apply VL_call; exact .none; exact rfl; exact rfl
  · intro w1 s
    have q := frame w1 fn A2 c2 rs (h2.rdAt (H := [_, _, _]) s) (.inl fun r hr => k2 r.l (by rw [← hrr]; exact List.mem_map_of_mem hr))
    rw [hrr, k1, hlr] at q; dsimp only at q; exact q
  rintro w1 v w2 s ⟨e3, A3, c3, rfl, h3, t⟩
  refine ⟨_, _, s.comp0 t, ?_⟩
  repeat (first | refine st ?_ | (refine sa ?_; intro _))
  apply VL_load; exact .yes rfl rfl; exact rfl; exact rfl; exact fun w s => bcell w _ s; exact rfl
  apply VL_call; exact .yes rfl rfl; exact rfl; exact rfl
  · intro w1 s; exact eqT w1 A3 br.A c3 br.c br.l (s.rdO (get_last _ _) h3) (s.rd hbr) (by omega)
  rintro w1 v w2 s ⟨rfl, t⟩
  refine ⟨_, _, s.comp t, ?_⟩
  repeat (first | refine st ?_ | (refine sa ?_; intro _))
  exact VE_ret1 rfl rfl (fun w s => ⟨_, rfl, rfl, s.drop⟩)
end Go.Proofs.YtpboahlpgfglkaaDoor.X
