/-
  Contract: the statement CodecDials.
-/
import Derived.Test.YtpboahlpgfglkaaDoorF33
namespace Go.Proofs.YtpboahlpgfglkaaDoor.X
open Go Go.RowKit
set_option linter.unusedVariables false
set_option linter.unusedSimpArgs false
set_option maxRecDepth 100000

structure DialA where
  c : Cfg
  n : Int
  m : Row
  b : Row
def DialA.cells (x : DialA) : List Value := [i64 x.c.batch, i64 x.c.message, i64 x.c.buckets, i64 x.c.text, i64 x.c.window, i64 x.c.workers, i64 x.n, x.m.val, x.b.val]
def DialA.val (x : DialA) : Value := .agg x.cells.toArray
structure DialA.ok (w : World) (x : DialA) : Prop where
  m : Rd w x.m.A (x.m.l.map u8)
  b : Rd w x.b.A (x.b.l.map u8)
  mc : x.m.l.length ≤ x.m.c
  bc : x.b.l.length ≤ x.b.c
  ml : x.m.l.length ≤ 140737488351232
  bl : x.b.l.length ≤ 140737488351232
  msg : -9223372036854775808 ≤ x.c.message ∧ x.c.message ≤ 9223372036854775807
theorem DialA.cellsC (x : DialA) : ∀ (j : Nat) (v : Value), x.c.cells[j]? = some v → x.cells[0 + 0 + j]? = some v := by
  intro j v h
  have e : x.cells = x.c.cells ++ [i64 x.n, x.m.val, x.b.val] := rfl
  have hlt : j < x.c.cells.length := by
    rcases Nat.lt_or_ge j x.c.cells.length with h' | h'
    · exact h'
    · rw [List.getElem?_eq_none h'] at h; simp at h
  rw [Nat.zero_add, e, List.getElem?_append_left hlt]; exact h

set_option maxHeartbeats 8000000 in
theorem codecDials (w : World) (x : DialA) (hx : x.ok w) (hE : ErrCell w) :
    Calls Tryd.prog 6 #[x.val] w (Ret fun v w' => v = .bool true ∧ St w [] [] w') := by
  obtain ⟨c, n, mr, br⟩ := x
  have cC := DialA.cellsC ⟨c, n, mr, br⟩
  obtain ⟨hmr, hbr, hmc, hbc, hml, hbl, hm⟩ := hx
  dsimp only at hmr hbr hmc hbc hml hbl hm cC
  refine enter (args := [_]) Tryd.func6 rfl rfl rfl ?_
  repeat (first | refine st ?_ | (refine sa ?_; intro _))
  rename_i xb
  obtain ⟨XX, hXX⟩ : ∃ XX : Ent, XX = Blk xb (DialA.cells ⟨c, n, mr, br⟩) 55 := ⟨_, rfl⟩
  have xC : ∀ (w1 : World) (H : List Ent), St w [] (XX :: H) w1 → At w1 xb (0 + 0) c.cells := fun w1 H s => by subst hXX; exact s.atH (k := 0) rfl cC
  have xN : ∀ (w1 : World) (H : List Ent), St w [] (XX :: H) w1 → w1.cell? ⟨xb, 0 + 6, none⟩ = some (i64 n) := fun w1 H s => by subst hXX; exact s.cell (k := 0) rfl rfl
  have xM : ∀ (w1 : World) (H : List Ent), St w [] (XX :: H) w1 → w1.cell? ⟨xb, 0 + 7, none⟩ = some mr.val := fun w1 H s => by subst hXX; exact s.cell (k := 0) rfl rfl
  have xB : ∀ (w1 : World) (H : List Ent), St w [] (XX :: H) w1 → w1.cell? ⟨xb, 0 + 8, none⟩ = some br.val := fun w1 H s => by subst hXX; exact s.cell (k := 0) rfl rfl
  have inI : ∀ (l : List UInt8) (ib : Nat) (w1 : World) (H : List Ent), St w [] (XX :: Blk ib ((l ++ marks l.length).map u8) 5 :: H) w1 → Rd w1 (some ⟨ib, 0, none⟩) (l.map u8) := fun l ib w1 H s => by
    have := s.rdH (k := 1) rfl
    rw [List.map_append] at this
    exact this.append
  refine VL_H (M' := []) (H' := [XX]) (fun w s => by rw [hXX]; exact s) ?_
  clear hXX cC
  repeat (first | refine st ?_ | (refine sa ?_; intro _))
  dsimp only
  apply VL_call; exact .none; exact rfl; exact rfl
  · intro w1 s; exact spare w1 mr.A mr.c mr.l (s.rd hmr) (by omega)
  rintro w1 v w2 s ⟨ib, rfl, t⟩
  refine ⟨_, _, s.comp0 t, ?_⟩
  repeat (first | refine st ?_ | (refine sa ?_; intro _))
  apply VL_loadA (cs := c.cells); exact .none; exact rfl; exact rfl; exact rfl; exact fun w s => xC w _ s; exact rfl
  repeat (first | refine st ?_ | (refine sa ?_; intro _))
  apply VL_load; exact .none; exact rfl; exact rfl; exact fun w s => xN w _ s; exact rfl
  repeat (first | refine st ?_ | (refine sa ?_; intro _))
  apply VL_call; exact .none; exact rfl; exact rfl
  · intro w1 s; exact dialRequest w1 c n (some ⟨ib, 0, none⟩) (mr.l.length + 80) mr.l (inI _ _ w1 _ s) (.inr (s.err hE)) hm
  rintro w1 v w2 s ⟨e1, A1, c1, rfl, h1, t⟩
  refine ⟨_, _, s.comp0 t, ?_⟩
  repeat (first | refine st ?_ | (refine sa ?_; intro _))
  apply VL_loadA (cs := c.cells); exact .none; exact rfl; exact rfl; exact rfl; exact fun w s => xC w _ s; exact rfl
  repeat (first | refine st ?_ | (refine sa ?_; intro _))
  apply VL_load; exact .none; exact rfl; exact rfl; exact fun w s => xN w _ s; exact rfl
  repeat (first | refine st ?_ | (refine sa ?_; intro _))
  apply VL_call; exact .none; exact rfl; exact rfl
  · intro w1 s; exact dialRequest w1 c n (some ⟨ib, 0, none⟩) (mr.l.length + 80) mr.l (inI _ _ w1 _ s) (.inr (s.err hE)) hm
  rintro w1 v w2 s ⟨e2, A2, c2, rfl, h2, t⟩
  refine ⟨_, _, s.comp0 t, ?_⟩
  repeat (first | refine st ?_ | (refine sa ?_; intro _))
  apply VL_loadA (cs := c.cells); exact .none; exact rfl; exact rfl; exact rfl; exact fun w s => xC w _ s; exact rfl
  repeat (first | refine st ?_ | (refine sa ?_; intro _))
  apply VL_load; exact .none; exact rfl; exact rfl; exact fun w s => xN w _ s; exact rfl
  repeat (first | refine st ?_ | (refine sa ?_; intro _))
  apply VL_load; exact .none; exact rfl; exact rfl; exact fun w s => xM w _ s; exact rfl
  apply VL_call; exact .none; exact rfl; exact rfl
  · intro w1 s; exact refDialRequest w1 c n mr.A mr.c mr.l (s.rd hmr)
  rintro w1 v w2 s ⟨e3, A3, c3, rfl, h3, t⟩
  refine ⟨_, _, s.comp0 t, ?_⟩
  repeat (first | refine st ?_ | (refine sa ?_; intro _))
  apply VL_load; exact .yes rfl rfl; exact rfl; exact rfl; exact fun w s => xM w _ s; exact rfl
  refine VL_pick [2, 3, 0, 1, 4] (by decide) ?_
  apply VL_call; exact .yes rfl rfl; exact rfl; exact rfl
  · intro w1 s; exact twice w w1 e1 e2 A1 A2 A3 (some ⟨ib, 0, none⟩) mr.A c1 c2 c3 (mr.l.length + 80) mr.c _ mr.l [XX, Blk ib ((mr.l ++ marks mr.l.length).map u8) 5, e3] s h1 h2 (fun w' s => s.rdO (k := 4) rfl h3) (fun w' s => s.rdH (k := 1) rfl) (Nat.le_refl _) hmr (by have := dialReq_le c n mr.l; omega) (by omega)
  rintro w1 v w2 s ⟨rfl, t⟩
  refine ⟨[], _, t, ?_⟩
  refine VL_H (M' := []) (H' := [XX, Blk ib ((mr.l ++ marks mr.l.length).map u8) 5]) (fun w s => s.pick [0, 1] (by decide)) ?_
  clear h1 h2 h3
  repeat (first | refine st ?_ | (refine sa ?_; intro _))
  refine VL_H (M' := []) (H' := [XX]) (fun w s => s.pick [0] (by decide)) ?_
  apply VL_load; exact .none; exact rfl; exact rfl; exact fun w s => xB w _ s; exact rfl
  apply VL_call; exact .none; exact rfl; exact rfl
  · intro w1 s; exact spare w1 br.A br.c br.l (s.rd hbr) (by omega)
  rintro w1 v w2 s ⟨ib, rfl, t⟩
  refine ⟨_, _, s.comp0 t, ?_⟩
  repeat (first | refine st ?_ | (refine sa ?_; intro _))
  apply VL_loadA (cs := c.cells); exact .none; exact rfl; exact rfl; exact rfl; exact fun w s => xC w _ s; exact rfl
  repeat (first | refine st ?_ | (refine sa ?_; intro _))
  apply VL_call; exact .none; exact rfl; exact rfl
  · intro w1 s; exact parseDial w1 c (some ⟨ib, 0, none⟩) (br.l.length + 80) br.l (inI _ _ w1 _ s) hm
  rintro w1 v w2 s ⟨e1, A1, c1, rfl, h1, t⟩
  refine ⟨_, _, s.comp0 t, ?_⟩
  repeat (first | refine st ?_ | (refine sa ?_; intro _))
  apply VL_loadA (cs := c.cells); exact .none; exact rfl; exact rfl; exact rfl; exact fun w s => xC w _ s; exact rfl
  repeat (first | refine st ?_ | (refine sa ?_; intro _))
  apply VL_call; exact .none; exact rfl; exact rfl
  · intro w1 s; exact parseDial w1 c (some ⟨ib, 0, none⟩) (br.l.length + 80) br.l (inI _ _ w1 _ s) hm
  rintro w1 v w2 s ⟨e2, A2, c2, rfl, h2, t⟩
  refine ⟨_, _, s.comp0 t, ?_⟩
  repeat (first | refine st ?_ | (refine sa ?_; intro _))
  apply VL_loadA (cs := c.cells); exact .none; exact rfl; exact rfl; exact rfl; exact fun w s => xC w _ s; exact rfl
  repeat (first | refine st ?_ | (refine sa ?_; intro _))
  apply VL_load; exact .none; exact rfl; exact rfl; exact fun w s => xB w _ s; exact rfl
  apply VL_call; exact .none; exact rfl; exact rfl
  · intro w1 s; exact refParseDial w1 c br.A br.c br.l (s.rd hbr) hbc
  rintro w1 v w2 s ⟨e3, A3, c3, rfl, h3, t⟩
  refine ⟨_, _, s.comp0 t, ?_⟩
  repeat (first | refine st ?_ | (refine sa ?_; intro _))
  apply VL_load; exact .yes rfl rfl; exact rfl; exact rfl; exact fun w s => xB w _ s; exact rfl
  refine VL_pick [2, 3, 0, 1, 4] (by decide) ?_
  apply VL_call; exact .yes rfl rfl; exact rfl; exact rfl
  · intro w1 s; exact twice w w1 e1 e2 A1 A2 A3 (some ⟨ib, 0, none⟩) br.A c1 c2 c3 (br.l.length + 80) br.c _ br.l [XX, Blk ib ((br.l ++ marks br.l.length).map u8) 5, e3] s h1 h2 (fun w' s => s.rdO (k := 4) rfl h3) (fun w' s => s.rdH (k := 1) rfl) (Nat.le_refl _) hbr (by have := dialParsed_le c br.l; omega) (by omega)
  rintro w1 v w2 s ⟨rfl, t⟩
  refine ⟨[], _, t, ?_⟩
  refine VL_H (M' := []) (H' := [XX, Blk ib ((br.l ++ marks br.l.length).map u8) 5]) (fun w s => s.pick [0, 1] (by decide)) ?_
  clear h1 h2 h3
  repeat (first | refine st ?_ | (refine sa ?_; intro _))
  refine VC_draw (S := fun w' => St w [] [XX, Blk ib ((br.l ++ marks br.l.length).map u8) 5] w') mixed (fun _ s => s) ?_
  refine tk 3 ?_
  refine tk 4 ?_
  refine tk (v := br.val) 5 ?_ (hS := fun w1 h1 => ⟨_, h1, Y_load rfl rfl (fun w2 s2 => xB w2 _ s2)⟩)
  apply VA_step 0; exact rfl; kernel_rfl
  apply VL_call; exact .none; exact rfl; exact rfl
  · intro w1 s; exact ack w1
  rintro w1 v w2 s ⟨k0, rfl, t⟩
  refine ⟨_, _, s.comp0 t, VL_nil (VA_back (fun w s => s.pick [0, 1] (by decide)) ?_)⟩
  apply VA_step 1; exact rfl; kernel_rfl
  apply VL_call; exact .none; exact rfl; exact rfl
  · intro w1 s; exact ack w1
  rintro w1 v w2 s ⟨k1, rfl, t⟩
  refine ⟨_, _, s.comp0 t, VL_nil (VA_back (fun w s => s.pick [0, 1] (by decide)) ?_)⟩
  apply VA_step 2; exact rfl; kernel_rfl
  apply VL_call; exact .none; exact rfl; exact rfl
  · intro w1 s; exact refAck w1
  rintro w1 v w2 s ⟨e3, A3, c3, rfl, h3, t⟩
  refine ⟨_, _, s.comp0 t, VL_nil (VA_back (fun w s => s.pick [0, 1] (by decide)) ?_)⟩
  have own16 : ∀ b : Nat, OwnSl (Blk b (ackB.map u8) 5 (16, 17)) (some ⟨b, 0, none⟩) 16 5 (ackB.map u8) := fun b => .inr ⟨b, [], (16, 17), by simp, rfl, rfl, NF.high (by decide)⟩
  apply VA_step 6; exact rfl; kernel_rfl
  refine VL_pick [2, 3, 0, 1, 4] (by decide) ?_
  apply VL_call; exact .none; exact rfl; exact rfl
  · intro w1 s; exact twice w w1 _ _ (some ⟨k0, 0, none⟩) (some ⟨k1, 0, none⟩) A3 (some ⟨ib, 0, none⟩) br.A 16 16 c3 (br.l.length + 80) br.c ackB br.l [XX, Blk ib ((br.l ++ marks br.l.length).map u8) 5, e3] s (own16 k0) (own16 k1) (fun w' s => s.rdO (k := 4) rfl h3) (fun w' s => s.rdH (k := 1) rfl) (Nat.le_refl _) hbr (by decide) (by omega)
  rintro w1 v w2 s ⟨rfl, t⟩
  refine ⟨[], _, t, VL_nil (VA_back (fun w s => s.pick [0, 1] (by decide)) ?_)⟩
  refine tk 7 ?_
  apply VA_step 8; exact rfl; kernel_rfl
  apply VL_call; exact .yes rfl rfl; exact rfl; exact rfl
  · intro w1 s; exact ack w1
  rintro w1 v w2 s ⟨k2, rfl, t⟩
  refine ⟨_, _, s.comp0 t, VL_nil (VA_back (fun w s => s.pick [0, 1] (by decide)) ?_)⟩
  apply VA_step 9; exact rfl; kernel_rfl
  apply VL_call; exact .yes rfl rfl; exact rfl; exact rfl
  · intro w1 s; exact refAck w1
  rintro w1 v w2 s ⟨e4, A4, c4, rfl, h4, t⟩
  refine ⟨_, _, s.comp0 t, VL_nil (VA_back (fun w s => s.pick [0, 1] (by decide)) ?_)⟩
  apply VA_step 10; exact rfl; kernel_rfl
  apply VL_call; exact .yes rfl rfl; exact rfl; exact rfl
  · intro w1 s; exact eqT w1 (some ⟨k2, 0, none⟩) A4 16 c4 ackB (s.rdH (k := 3) rfl) (s.rdO (k := 4) rfl h4) (by decide)
  rintro w1 v w2 s ⟨rfl, t⟩
  refine ⟨_, _, s.comp t, VL_nil (VA_back (fun w s => s.pick [0, 1] (by decide)) ?_)⟩
  refine tk 11 ?_
  refine tk 12 ?_
  refine VA_done (by kernel_rfl) ?_
  repeat (first | refine st ?_ | (refine sa ?_; intro _))
  exact VE_ret1 rfl rfl (fun w s => ⟨_, rfl, rfl, s.drop⟩)
end Go.Proofs.YtpboahlpgfglkaaDoor.X
