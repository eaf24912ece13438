/-
  Contract: the statement CodecFrames.
-/
import Derived.Test.YtpboahlpgfglkaaDoorF36
namespace Go.Proofs.YtpboahlpgfglkaaDoor.X
open Go Go.RowKit
set_option linter.unusedVariables false
set_option linter.unusedSimpArgs false
set_option maxRecDepth 100000

theorem eqRowsT (w : World) (A B : Option Addr) (ca cb : Nat) (ra rb : List Row) (ls : List (List UInt8)) (hA : RdRows w A ra) (hB : RdRows w B rb) (ha : ra.map Row.l = ls) (hb : rb.map Row.l = ls) (hn : ls.length ≤ 256) (hl : ∀ r ∈ ls, r.length ≤ 88) :
    Calls Tryd.prog 33 #[.slice A ls.length ca, .slice B ls.length cb] w (Ret fun v w' => v = .bool true ∧ St w [] [] w') := by
  have h1 : ra.length = ls.length := by rw [← ha, List.length_map]
  have h2 : rb.length = ls.length := by rw [← hb, List.length_map]
  have q := eqRows w A B ca cb ra rb hA hB (by omega) (fun r hr => by have := hl r.l (by rw [← ha]; exact List.mem_map_of_mem hr); omega)
  rw [h1, h2, ha, hb] at q
  simpa using q

set_option maxHeartbeats 8000000 in
theorem codecFrames (w : World) (n : Int) (A : Option Addr) (ca : Nat) (rows : List Row) (B : Option Addr) (cb : Nat) (l : List UInt8) (hA : RdRows w A rows) (hn : rows.length * 24 ≤ 140737488351232) (hl : ∀ r ∈ rows, r.l.length ≤ 140737488351232) (hB : Rd w B (l.map u8)) (hbl : l.length ≤ 140737488351232) (hbc : l.length ≤ cb) (hE : ErrCell w) :
    Calls Tryd.prog 5 #[i64 n, .slice A rows.length ca, .slice B l.length cb] w (Ret fun v w' => v = .bool true ∧ St w [] [] w') := by
  refine enter (args := [_, _, _]) Tryd.func5 rfl rfl rfl ?_
  repeat (first | refine st ?_ | (refine sa ?_; intro _))
  apply VL_call; exact .none; exact rfl; exact rfl
  · intro w1 s; exact spareRows w1 A ca rows (s.rdRows hA) hn hl
  rintro w1 v w2 s ⟨wb, es, rs, rfl, hrl, hrr, hsp, t⟩
  refine ⟨_, _, s.comp0 t, ?_⟩
  obtain ⟨OUT, hOUT⟩ : ∃ OUT : Ent, OUT = Blk wb (rs.map Row.val) 32 := ⟨_, rfl⟩
  have esl : es.length = rows.length + 3 := by rw [hsp.1, hrl]
  have fK : ∀ (w' : World) (H : List Ent), St w [] ((OUT :: es) ++ H) w' → KeptIn w' (some ⟨wb, 0, none⟩) (rows.length + 3) rows.length rs := by
    intro w' H s
    refine ⟨by subst hOUT; exact s.rdH (k := 0) rfl, Nat.le_refl _, hrl, fun j r hj => ?_⟩
    obtain ⟨e, he, ⟨b, hb1, hb2, hb3⟩, hje⟩ := hsp.get hj
    have hk : ((OUT :: es) ++ H)[j + 1]? = some e := by rw [List.cons_append, List.getElem?_cons_succ, List.getElem?_append_left hje]; exact he
    refine ⟨fun hjn => ?_, fun hjn => ?_⟩
    · obtain ⟨g1, g2⟩ := hb2 hjn
      refine ⟨by omega, ?_⟩
      rw [g2] at hk
      rw [hb1]; exact s.rdH hk
    · obtain ⟨g1, g2⟩ := hb3 hjn
      refine ⟨g1, ?_⟩
      rw [g2] at hk
      rw [hb1]; exact s.rdH hk
  have rs0l : (rs.take rows.length).length = rows.length := by simp; omega
  have fS : ∀ (w' : World) (H : List Ent), St w [] ((OUT :: es) ++ H) w' → RdRows w' (some ⟨wb, 0, none⟩) (rs.take rows.length) := by
    intro w' H s
    have hk := fK w' H s
    have hrd := hk.rd
    rw [← List.take_append_drop rows.length rs, List.map_append] at hrd
    refine ⟨hrd.append, fun r hr => ?_⟩
    obtain ⟨j, hj⟩ := List.mem_iff_getElem?.1 hr
    rw [List.getElem?_take] at hj
    split at hj
    · have := ((hk.each j r hj).1 (by assumption)).2
      rw [List.map_append] at this; exact this.append
    · simp at hj
  refine VL_H (M' := []) (H' := (OUT :: es) ++ []) (fun w s => by rw [hOUT, List.append_nil]; exact s) ?_
  have frm : ∀ (w1 : World) (H : List Ent), St w [] ((OUT :: es) ++ H) w1 → Calls Tryd.prog 26 #[i64 n, .slice (some ⟨wb, 0, none⟩) rows.length (rows.length + 3)] w1 (Ret (Ans (frameF n (rows.map Row.l)).1 (frameF n (rows.map Row.l)).2 w1)) := by
    intro w1 H s
    have q := frame w1 n (some ⟨wb, 0, none⟩) (rows.length + 3) (rs.take rows.length) (fS w1 H s) (.inr (s.err hE))
    rw [rs0l, hrr] at q; exact q
  repeat (first | refine st ?_ | (refine sa ?_; intro _))
  apply VL_call; exact .none; exact rfl; exact rfl
  · intro w1 s; exact frm w1 _ s
  rintro w1 v w2 s ⟨e1, A1, c1, rfl, h1, t⟩
  refine ⟨_, _, s.comp0 t, ?_⟩
  repeat (first | refine st ?_ | (refine sa ?_; intro _))
  refine VL_H (M' := []) (H' := (OUT :: es) ++ [e1]) (fun w s => by simpa using s) ?_
  apply VL_call; exact .none; exact rfl; exact rfl
  · intro w1 s; exact frm w1 _ s
  rintro w1 v w2 s ⟨e2, A2, c2, rfl, h2, t⟩
  refine ⟨_, _, s.comp0 t, ?_⟩
  repeat (first | refine st ?_ | (refine sa ?_; intro _))
  apply VL_call; exact .none; exact rfl; exact rfl
  · intro w1 s; exact refFrame w1 n A ca rows (s.rdRows hA)
  rintro w1 v w2 s ⟨e3, A3, c3, rfl, h3, t⟩
  refine ⟨_, _, s.comp0 t, ?_⟩
  have hfl := frameF_le n (rows.map Row.l)
  repeat (first | refine st ?_ | (refine sa ?_; intro _))
  refine VL_H (M' := []) (H' := (OUT :: es) ++ [e1] ++ [e2] ++ [e3]) (fun w s => by simpa using s) ?_
  have k1 : ((OUT :: es) ++ [e1] ++ [e2] ++ [e3])[(OUT :: es).length]? = some e1 := by simp
  have k2 : ((OUT :: es) ++ [e1] ++ [e2] ++ [e3])[((OUT :: es) ++ [e1]).length]? = some e2 := by simp
  apply VL_call; exact .yes rfl rfl; exact rfl; exact rfl
  · intro w1 s; exact eqT w1 A1 A3 c1 c3 _ (s.rdO k1 h1) (s.rdO (get_last _ _) h3) (by omega)
  rintro w1 v w2 s ⟨rfl, t⟩
  refine ⟨_, _, s.comp t, ?_⟩
  repeat (first | refine st ?_ | (refine sa ?_; intro _))
  apply VL_call; exact .yes rfl rfl; exact rfl; exact rfl
  · intro w1 s; exact eqT w1 A2 A3 c2 c3 _ (s.rdO k2 h2) (s.rdO (get_last _ _) h3) (by omega)
  rintro w1 v w2 s ⟨rfl, t⟩
  refine ⟨_, _, s.comp t, ?_⟩
  repeat (first | refine st ?_ | (refine sa ?_; intro _))
  have kr : ∀ (w1 : World) (H : List Ent), St w [] ((OUT :: es) ++ H) w1 → Calls Tryd.prog 29 #[.slice (some ⟨wb, 0, none⟩) rows.length (rows.length + 3), .slice A rows.length ca] w1 (Ret fun v w' => v = .bool true ∧ St w1 [] [] w') := by
    intro w1 H s
    exact keptRows w1 (some ⟨wb, 0, none⟩) A (rows.length + 3) ca rs rows (fK w1 H s) (s.rdRows hA) hrr hn hl
  apply VL_call; exact .yes rfl rfl; exact rfl; exact rfl
  · intro w1 s; exact kr w1 ([e1] ++ [e2] ++ [e3]) (by simpa using s)
  rintro w1 v w2 s ⟨rfl, t⟩
  refine ⟨_, _, s.comp t, ?_⟩
  repeat (first | refine st ?_ | (refine sa ?_; intro _))
  apply VL_buildSlice1; exact .yes rfl rfl; exact rfl; exact rfl; exact rfl; exact rfl; exact rfl; exact rfl; exact rfl
  intro bs
  apply VL_call; exact .yes rfl rfl; exact rfl; exact rfl
  · intro w1 s
    refine apart w w1 (Blk bs [Row.val ⟨A1, c1, (frameF n (rows.map Row.l)).1⟩, Row.val ⟨A2, c2, (frameF n (rows.map Row.l)).1⟩] 32) (some ⟨bs, 0, none⟩) 2 [⟨A1, c1, (frameF n (rows.map Row.l)).1⟩, ⟨A2, c2, (frameF n (rows.map Row.l)).1⟩] [e1, e2] (OUT :: es) s.four (.inr ⟨bs, [], (0, 0), rfl, rfl, rfl, NF.zero _⟩) ⟨rfl, fun j e r he hr => ?_⟩ (by simp) (fun r hr => by simp at hr; rcases hr with rfl | rfl <;> (dsimp only; omega))
    rcases j with _ | _ | j
    · simp at he hr; subst he hr; exact h1
    · simp at he hr; subst he hr; exact h2
    · simp at he
  rintro w1 v w2 s ⟨rfl, t⟩
  refine ⟨[], (OUT :: es), t, ?_⟩
  repeat (first | refine st ?_ | (refine sa ?_; intro _))
  apply VL_call; exact .yes rfl rfl; exact rfl; exact rfl
  · intro w1 s; exact kr w1 [] (by simpa using s)
  rintro w1 v w2 s ⟨rfl, t⟩
  refine ⟨_, _, s.comp t, ?_⟩
  repeat (first | refine st ?_ | (refine sa ?_; intro _))
  refine VL_H (M' := []) (H' := []) (fun w s => s.drop) ?_
  clear k1 k2 kr frm fS fK hsp hOUT h1 h2 h3 hfl
  -- what is framed is read
  apply VL_call; exact .none; exact rfl; exact rfl
  · intro w1 s; exact spare w1 B cb l (s.rd hB) (by omega)
  rintro w1 v w2 s ⟨ib, rfl, t⟩
  refine ⟨_, _, s.comp0 t, ?_⟩
  obtain ⟨hpn, hp88⟩ := frameParsed_le l
  have inI : ∀ (x : List UInt8) (w1 : World) (H : List Ent), St w [] (Blk ib ((x ++ marks l.length).map u8) 5 :: H) w1 → Rd w1 (some ⟨ib, 0, none⟩) (x.map u8) := fun x w1 H s => by
    have := s.rdH (k := 0) rfl
    rw [List.map_append] at this
    exact this.append
  obtain ⟨IB, hIB⟩ : ∃ IB : Ent, IB = Blk ib ((l ++ marks l.length).map u8) 5 := ⟨_, rfl⟩
  have inL : ∀ (w1 : World) (H : List Ent), St w [] (IB :: H) w1 → Rd w1 (some ⟨ib, 0, none⟩) (l.map u8) := fun w1 H s => by subst hIB; exact inI l w1 H s
  have kp : ∀ (w1 : World) (H : List Ent), St w [] (IB :: H) w1 → Calls Tryd.prog 34 #[.slice (some ⟨ib, 0, none⟩) l.length (l.length + 80), .slice B l.length cb] w1 (Ret fun v w' => v = .bool true ∧ St w1 [] [] w') := by
    intro w1 H s
    exact keptT w1 (some ⟨ib, 0, none⟩) B (l.length + 80) cb l (by subst hIB; exact s.rdH (k := 0) rfl) (Nat.le_refl _) (s.rd hB) (by omega)
  refine VL_H (M' := []) (H' := [IB]) (fun w s => by rw [hIB]; exact s) ?_
  repeat (first | refine st ?_ | (refine sa ?_; intro _))
  apply VL_call; exact .none; exact rfl; exact rfl
  · intro w1 s; exact parseFrame w1 (some ⟨ib, 0, none⟩) (l.length + 80) l (inL w1 _ s) (by omega)
  rintro w1 v w2 s ⟨e1, es1, A1, c1, rs1, rfl, h1, t⟩
  refine ⟨_, _, s.comp0 t, ?_⟩
  repeat (first | refine st ?_ | (refine sa ?_; intro _))
  apply VL_call; exact .none; exact rfl; exact rfl
  · intro w1 s; exact parseFrame w1 (some ⟨ib, 0, none⟩) (l.length + 80) l (inL w1 _ s) (by omega)
  rintro w1 v w2 s ⟨e2, es2, A2, c2, rs2, rfl, h2, t⟩
  refine ⟨_, _, s.comp0 t, ?_⟩
  repeat (first | refine st ?_ | (refine sa ?_; intro _))
  apply VL_call; exact .none; exact rfl; exact rfl
  · intro w1 s; exact refParseFrame w1 B cb l (s.rd hB) (by omega) hbc
  rintro w1 v w2 s ⟨e3, es3, A3, c3, rs3, rfl, h3, t⟩
  refine ⟨_, _, s.comp0 t, ?_⟩
  repeat (first | refine st ?_ | (refine sa ?_; intro _))
  have q1 : ∀ w1, St w [] ([IB] ++ (e1 :: es1) ++ (e2 :: es2) ++ (e3 :: es3)) w1 → RdRows w1 A1 rs1 ∧ RdRows w1 A2 rs2 ∧ RdRows w1 A3 rs3 := fun w1 s =>
    ⟨h1.rdAt (H := [IB]) (s.perm ((List.sublist_append_left _ _).trans (List.sublist_append_left _ _))), h2.rdAt (H := [IB] ++ (e1 :: es1)) (s.perm (List.sublist_append_left _ _)), h3.rdAt s⟩
  apply VL_call; exact .yes rfl rfl; exact rfl; exact rfl
  · intro w1 s; exact eqRowsT w1 A1 A3 c1 c3 rs1 rs3 _ (q1 w1 s).1 (q1 w1 s).2.2 h1.2.2 h3.2.2 hpn hp88
  rintro w1 v w2 s ⟨rfl, t⟩
  refine ⟨_, _, s.comp t, ?_⟩
  repeat (first | refine st ?_ | (refine sa ?_; intro _))
  apply VL_call; exact .yes rfl rfl; exact rfl; exact rfl
  · intro w1 s; exact eqRowsT w1 A2 A3 c2 c3 rs2 rs3 _ (q1 w1 s).2.1 (q1 w1 s).2.2 h2.2.2 h3.2.2 hpn hp88
  rintro w1 v w2 s ⟨rfl, t⟩
  refine ⟨_, _, s.comp t, ?_⟩
  repeat (first | refine st ?_ | (refine sa ?_; intro _))
  apply VL_call; exact .yes rfl rfl; exact rfl; exact rfl
  · intro w1 s; exact kp w1 _ s
  rintro w1 v w2 s ⟨rfl, t⟩
  refine ⟨_, _, s.comp t, ?_⟩
  repeat (first | refine st ?_ | (refine sa ?_; intro _))
  refine VL_H (M' := []) (H' := [IB] ++ (e1 :: es1) ++ (e2 :: es2)) (fun w s => s.perm (List.sublist_append_left _ _)) ?_
  have hl1 : rs1.length = (frameParsed l).2.1.length := h1.len
  have hl2 : rs2.length = (frameParsed l).2.1.length := h2.len
  have q2 : ∀ (w1 : World) (H : List Ent), St w [] ([IB] ++ (e1 :: es1) ++ (e2 :: es2) ++ H) w1 → Rd w1 A1 (rs1.map Row.val) ∧ Rd w1 A2 (rs2.map Row.val) := fun w1 H s =>
    ⟨(h1.rdAt (H := [IB]) (s.perm ((List.sublist_append_left _ _).trans (List.sublist_append_left _ _)))).rd, (h2.rdAt (H := [IB] ++ (e1 :: es1)) (s.perm (List.sublist_append_left _ _))).rd⟩
  refine VL_append_nil (news := rs1.map Row.val) .none rfl rfl rfl (by simp [hl1]) (fun w s => (q2 w [] (by rw [List.append_nil]; exact s)).1) (all_row _) rfl (by omega) rfl (fun eA AA cA hoA => ?_)
  repeat (first | refine st ?_ | (refine sa ?_; intro _))
  refine VL_append (vs := rs1.map Row.val) (news := rs2.map Row.val) (p := ([IB] ++ (e1 :: es1) ++ (e2 :: es2)).length) (r := (frameParsed l).2.1.length + (frameParsed l).2.1.length) .none rfl rfl rfl (get_last _ _) hoA (by simp [hl1]) (all_row _) (by simp [hl2]) (fun w s => (q2 w _ s).2) (all_row _) rfl (by simp [hl1, hl2]) (by omega) rfl (fun eA AA cA hoA => ?_)
  refine VL_H (M' := []) (H' := eA :: ((es1 ++ es2) ++ [IB])) (fun w' s => ?_) ?_
  · have e : ∀ z : Ent, ([IB] ++ (e1 :: es1) ++ (e2 :: es2) ++ [z]).set ([IB] ++ (e1 :: es1) ++ (e2 :: es2)).length eA = [IB] ++ (e1 :: es1) ++ (e2 :: es2) ++ [eA] := fun z => set_mid
    have s1 : St w [] (([IB] ++ (e1 :: es1) ++ (e2 :: es2)) ++ [eA]) w' := by rw [e] at s; exact s
    have s2 : St w [] (eA :: IB :: (es1 ++ es2)) w' := s1.rot.perm (((List.Sublist.append (List.sublist_cons_self e1 es1) (List.sublist_cons_self e2 es2)).cons_cons IB).cons_cons eA)
    exact s2.back
  have hown := h1.2.1.append h2.2.1
  rw [← List.map_append] at hoA
  have hl12 : (rs1 ++ rs2).length = (frameParsed l).2.1.length + (frameParsed l).2.1.length := by rw [List.length_append, hl1, hl2]
  have h88 : ∀ r ∈ rs1 ++ rs2, r.l.length ≤ 88 := by
    intro r hr
    rcases List.mem_append.1 hr with hr | hr
    · exact hp88 r.l (by rw [← h1.2.2]; exact List.mem_map_of_mem hr)
    · exact hp88 r.l (by rw [← h2.2.2]; exact List.mem_map_of_mem hr)
  repeat (first | refine st ?_ | (refine sa ?_; intro _))
  refine VC_cut ⟨fun i : Nat × Option Addr × Nat => OwnSl eA i.2.1 i.2.2 32 (((rs1 ++ rs2).take i.1).map Row.val) ∧ i.1 ≤ (rs1 ++ rs2).length, fun i => [(2, .slice B l.length cb), (14, .slice (some ⟨ib, 0, none⟩) l.length (l.length + 80)), (24, .slice i.2.1 i.1 i.2.2)], fun _ => [], fun i => eA :: ((es1 ++ es2) ++ [IB])⟩ ?_ ?_
  · by_cases h60 : 60 < (frameParsed l).2.1.length + (frameParsed l).2.1.length
    · have hcap : 60 ≤ cA := by have := hoA.le; rw [List.length_map] at this; omega
      repeat (first | refine st ?_ | (refine sa ?_; intro _))
      refine VL_slice_hi (i' := 60) .none rfl rfl rfl (by omega) (fun a ha => by obtain ⟨b, off, e'⟩ := hoA.safe0 (by rw [List.length_map]; omega); rw [e'] at ha; cases ha; rfl) rfl ?_
      repeat (first | refine st ?_ | (refine sa ?_; intro _))
      refine VE_fam (60, AA, cA) ⟨?_, by dsimp only; omega⟩ trivial ⟨rfl, rfl, rfl, trivial⟩ (fun _ s => s)
      rw [← List.take_append_drop 60 (rs1 ++ rs2), List.map_append] at hoA
      exact hoA.cut
    · repeat (first | refine st ?_ | (refine sa ?_; intro _))
      refine VE_fam ((frameParsed l).2.1.length + (frameParsed l).2.1.length, AA, cA) ⟨?_, by dsimp only; omega⟩ trivial ⟨rfl, rfl, ?_, trivial⟩ (fun _ s => s)
      · dsimp only; rw [List.take_of_length_le (by omega)]; exact hoA
      · dsimp only; rfl
  rintro ⟨m, AA, cA⟩ ⟨hoA, hm⟩
  dsimp only at hoA hm ⊢
  have hml : ((rs1 ++ rs2).take m).length = m := by simp only [List.length_take]; omega
  repeat (first | refine st ?_ | (refine sa ?_; intro _))
  apply VL_call; exact .none; exact rfl; exact rfl
  · intro w1 s
    have q := apart w w1 eA AA cA ((rs1 ++ rs2).take m) ((es1 ++ es2).take m) [IB] (s.perm ((List.Sublist.append (List.take_sublist _ _) (List.Sublist.refl _)).cons_cons _)) hoA (hown.take m) (by omega) (fun r hr => by have := h88 r (List.mem_of_mem_take hr); omega)
    rw [hml] at q; exact q
  rintro w1 v w2 s ⟨rfl, t⟩
  refine ⟨[], [IB], t, ?_⟩
  repeat (first | refine st ?_ | (refine sa ?_; intro _))
  apply VL_call; exact .yes rfl rfl; exact rfl; exact rfl
  · intro w1 s; exact kp w1 _ s
  rintro w1 v w2 s ⟨rfl, t⟩
  refine ⟨_, _, s.comp t, ?_⟩
  repeat (first | refine st ?_ | (refine sa ?_; intro _))
  apply VL_call; exact .none; exact rfl; exact rfl
  · intro w1 s; exact parseFrame w1 (some ⟨ib, 0, none⟩) (l.length + 80) l (inL w1 _ s) (by omega)
  rintro w1 v w2 s ⟨e4, es4, A4, c4, rs4, rfl, h4, t⟩
  refine ⟨_, _, s.comp0 t, ?_⟩
  repeat (first | refine st ?_ | (refine sa ?_; intro _))
  refine VC_cutB ⟨fun x : List UInt8 => x.length = l.length, fun x => [(14, .slice (some ⟨ib, 0, none⟩) l.length (l.length + 80))], fun _ => [], fun x => [Blk ib ((x ++ marks l.length).map u8) 5]⟩ ?_ ?_
  · refine VC_loop ⟨fun i : Nat × List UInt8 => i.1 ≤ l.length + 8 ∧ i.2.length = l.length ∧ 8 ≤ i.1, fun i => [(14, .slice (some ⟨ib, 0, none⟩) l.length (l.length + 80)), (25, i64 (i.1 : Int))], fun _ => [], fun i => [Blk ib ((i.2 ++ marks l.length).map u8) 5]⟩ (fun i => l.length + 8 - i.1) (8, l) ⟨by dsimp only; omega, rfl, by dsimp only; omega⟩ ⟨rfl, rfl, trivial⟩ (fun _ s => by dsimp only; rw [← hIB]; exact s.pick [0] (by decide)) ?_
    rintro ⟨k, x⟩ ⟨hk, hx, hk8⟩
    dsimp only at hk hx hk8 ⊢
    have hxm : ((x ++ marks l.length).map u8).length = l.length + 80 := by rw [List.length_map, List.length_append, marks_length]; omega
    by_cases hkn : k < l.length
    · repeat (first | refine st ?_ | (refine sa ?_; intro _))
      apply VL_load; exact .none; exact rfl; exact rfl; exact fun w s => s.cellB (k := 0) rfl (get_u8 (l := x ++ marks l.length) (by rw [List.length_append, hx]; omega)); exact rfl
      apply VL_bin; exact .none; exact rfl; exact rfl; exact b8_xor (b := 255); exact rfl
      repeat (first | refine st ?_ | (refine sa ?_; intro _))
      refine VL_storeB (p := 0) .none rfl rfl rfl rfl (by rw [hxm]; omega) (NF.zero _) ?_
      repeat (first | refine st ?_ | (refine sa ?_; intro _))
      refine VE_fam (k + 1, x.set k (((x ++ marks l.length).getD k 0) ^^^ 255)) ⟨by dsimp only; omega, by simpa using hx, by dsimp only; omega⟩ (by dsimp only; omega) ⟨rfl, rfl, trivial⟩ (fun _ s => ?_)
      have s' : St w [] [Blk ib (((x ++ marks l.length).map u8).set k (u8 (((x ++ marks l.length).getD k 0) ^^^ 255))) 5] _ := s
      rw [← List.map_set, List.set_append_left _ _ (by omega)] at s'
      exact s'
    · repeat (first | refine st ?_ | (refine sa ?_; intro _))
      exact VE_fam x hx trivial ⟨rfl, trivial⟩ (fun _ s => s)
  rintro x hx
  dsimp only at hx ⊢
  obtain ⟨hpn2, hp882⟩ := frameParsed_le x
  clear hpn hp88
  repeat (first | refine st ?_ | (refine sa ?_; intro _))
  apply VL_call; exact .none; exact rfl; exact rfl
  · intro w1 s
    have q := copyBytes w1 (some ⟨ib, 0, none⟩) (l.length + 80) x (inI x w1 _ s) (by omega)
    rw [hx] at q; exact q
  rintro w1 v w2 s ⟨e5, A5, c5, rfl, h5, t⟩
  refine ⟨_, _, s.comp0 t, ?_⟩
  repeat (first | refine st ?_ | (refine sa ?_; intro _))
  apply VL_call; exact .none; exact rfl; exact rfl
  · intro w1 s
    have q := parseFrame w1 (some ⟨ib, 0, none⟩) (l.length + 80) x (inI x w1 _ s) (by omega)
    rw [hx] at q; exact q
  rintro w1 v w2 s ⟨e6, es6, A6, c6, rs6, rfl, h6, t⟩
  refine ⟨_, _, s.comp0 t, ?_⟩
  repeat (first | refine st ?_ | (refine sa ?_; intro _))
  apply VL_call; exact .none; exact rfl; exact rfl
  · intro w1 s
    have q := refParseFrame w1 A5 c5 x (s.rdO (k := 1) rfl h5) (by omega) (map_le h5)
    rw [hx] at q; exact q
  rintro w1 v w2 s ⟨e7, es7, A7, c7, rs7, rfl, h7, t⟩
  refine ⟨_, _, s.comp0 t, ?_⟩
  repeat (first | refine st ?_ | (refine sa ?_; intro _))
  apply VL_call; exact .yes rfl rfl; exact rfl; exact rfl
  · intro w1 s; exact eqRowsT w1 A6 A7 c6 c7 rs6 rs7 _ (h6.rdAt (H := [_, e5]) (s.perm (List.sublist_append_left _ _))) (h7.rdAt s) h6.2.2 h7.2.2 hpn2 hp882
  rintro w1 v w2 s ⟨rfl, t⟩
  refine ⟨_, _, s.comp t, ?_⟩
  repeat (first | refine st ?_ | (refine sa ?_; intro _))
  exact VE_ret1 rfl rfl (fun w s => ⟨_, rfl, rfl, s.drop⟩)
end Go.Proofs.YtpboahlpgfglkaaDoor.X
