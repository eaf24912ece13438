/-
  Contracts: the document's requests and replies of a talk round; answers asked twice.
-/
import Derived.Test.YtpboahlpgfglkaaDoorF29
import Derived.Test.YtpboahlpgfglkaaDoorF26
namespace Go.Proofs.YtpboahlpgfglkaaDoor.X
open Go Go.RowKit
set_option linter.unusedVariables false
set_option linter.unusedSimpArgs false
set_option maxRecDepth 100000

theorem arr_cell {l : List UInt8} {n : Nat} (h : n < l.length) : (l.map u8)[0 + n]? = some (u8 (l.getD n 0)) := by rw [Nat.zero_add]; exact get_u8 h
theorem refTalkRequest (w : World) (c : Cfg) (d : List UInt8) (hd : d.length = 16) (A : Option Addr) (ca : Nat) (l : List UInt8) (hA : Rd w A (l.map u8)) :
    Calls Tryd.prog 17 #[c.val, dropV d, .slice A l.length ca] w (Ret (Ans (talkReq c d l).1 (talkReq c d l).2 w)) := by
  refine enter (args := [_, _, _]) Tryd.func17 rfl rfl rfl ?_
  repeat (first | refine st ?_ | (refine sa ?_; intro _))
  rename_i cb db
  apply VL_loadW (k := 0); (first | exact .none | exact .yes rfl rfl); exact rfl; exact rfl; exact rfl; exact rfl; exact rfl
  apply VL_call; exact .none; exact rfl; exact rfl
  · intro w1 s; exact refCheck w1 c
  rintro w1 v w2 s ⟨rfl, t⟩
  refine ⟨_, _, s.comp t, ?_⟩
  unfold talkReq
  by_cases hg : c.good
  rotate_left
  · rw [if_neg hg, if_neg hg]
    repeat (first | refine st ?_ | (refine sa ?_; intro _))
    exact VE_ret2 rfl rfl rfl (fun w s => ⟨_, rfl, Ans.none s⟩)
  rw [if_pos hg, if_pos hg]
  have hg' := hg
  unfold Cfg.good at hg'
  by_cases h : (l.length : Int) = c.message
  rotate_left
  · rw [if_neg h]
    repeat (first | refine st ?_ | (refine sa ?_; intro _))
    exact VE_ret2 rfl rfl rfl (fun w s => ⟨_, rfl, Ans.none s⟩)
  rw [if_pos h]
  repeat (first | refine st ?_ | (refine sa ?_; intro _))
  refine VC_loop ⟨fun i : Nat × Ent × Option Addr × Nat => i.1 ≤ 16 ∧ OwnSl i.2.1 i.2.2.1 i.2.2.2 5 ((d.take i.1).map u8), fun i => [(2, .slice A l.length ca), (4, .pointer (some ⟨db, 0, none⟩)), (8, .slice i.2.2.1 i.1 i.2.2.2), (9, i64 (i.1 : Int))], fun _ => [], fun i => [Blk db (d.map u8) 31, i.2.1]⟩ (fun i => 16 - i.1) (0, none, none, 0) ⟨by simp, OwnSl.nil _⟩ ⟨rfl, rfl, rfl, rfl, trivial⟩ (fun _ s => (s.pick [1] (by decide)).none) ?_
  rintro ⟨k, e, A', c'⟩ ⟨hk, ho⟩
  dsimp only at hk ho ⊢
  have hlen : ((d.take k).map u8).length = k := by simp; omega
  by_cases hk16 : k < 16
  · repeat (first | refine st ?_ | (refine sa ?_; intro _))
    apply VL_buildSlice1; exact .none; exact rfl; exact rfl; exact rfl; exact rfl; exact rfl; exact rfl; exact rfl
    intro b
    refine VL_append (vs := (d.take k).map u8) (news := [u8 (d.getD k 0)]) (p := 1) (r := k + 1) .none rfl rfl rfl rfl ho hlen.symm (all_u8 _) rfl (fun w s => s.rdH (k := 2) rfl) rfl rfl (by rw [hlen]; rfl) (by omega) rfl (fun e2 A2 c2 h2 => ?_)
    repeat (first | refine st ?_ | (refine sa ?_; intro _))
    refine VE_fam (k + 1, e2, A2, c2) ⟨by (try dsimp only); omega, ?_⟩ (by (try dsimp only); omega) ⟨rfl, rfl, rfl, rfl, trivial⟩ (fun _ s => s.pick [0, 1] (by decide))
    rw [take_snoc8 (by omega), List.map_append]; exact h2
  · have hk' : k = 16 := by omega
    subst hk'
    rw [List.take_of_length_le (by omega)] at ho
    repeat (first | refine st ?_ | (refine sa ?_; intro _))
    apply VL_call; exact .none; exact rfl; exact rfl
    · intro w1 s
      have q := two w1 A' A c' ca d l (s.rdO (k := 1) rfl ho) (s.rd hA) (by omega)
      rw [hd] at q; exact q
    rintro w1 v w2 s ⟨e2, A2, c2, rfl, h2, t⟩
    refine ⟨_, _, s.comp0 t, ?_⟩
    repeat (first | refine st ?_ | (refine sa ?_; intro _))
    exact VE_ret2 rfl rfl rfl (fun w s => ⟨_, rfl, e2, A2, c2, rfl, h2, s.pick [2] (by decide)⟩)

theorem refParseTalk (w : World) (c : Cfg) (A : Option Addr) (ca : Nat) (l : List UInt8) (hA : Rd w A (l.map u8)) (hca : l.length ≤ ca) (hm : -9223372036854775808 ≤ c.message ∧ c.message ≤ 9223372036854775807) :
    Calls Tryd.prog 22 #[c.val, .slice A l.length ca] w (Ret (AnsD (talkParsed c l).1 (talkParsed c l).2.1 (talkParsed c l).2.2 w)) := by
  refine enter (args := [_, _]) Tryd.func22 rfl rfl rfl ?_
  repeat (first | refine st ?_ | (refine sa ?_; intro _))
  apply VL_loadW (k := 0); (first | exact .none | exact .yes rfl rfl); exact rfl; exact rfl; exact rfl; exact rfl; exact rfl
  apply VL_call; exact .none; exact rfl; exact rfl
  · intro w1 s; exact refCheck w1 c
  rintro w1 v w2 s ⟨rfl, t⟩
  refine ⟨_, _, s.comp t, ?_⟩
  unfold talkParsed
  by_cases hg : c.good
  rotate_left
  · rw [if_neg hg, if_neg hg]
    repeat (first | refine st ?_ | (refine sa ?_; intro _))
    refine VL_build (v := dropV drop0) .none rfl (fun w => by kernel_rfl) rfl ?_
    apply VL_storeW (k := 1); exact .none; exact rfl; exact rfl; exact rfl; exact rfl; exact rfl; exact rfl; exact rfl; exact NF.zero _
    repeat (first | refine st ?_ | (refine sa ?_; intro _))
    apply VE_retCTT (k := 1); exact rfl; infer_instance; exact rfl; exact rfl; exact rfl; exact rfl; exact rfl; exact rfl
    exact fun w s => ⟨_, rfl, AnsD.none s⟩
  rw [if_pos hg, if_pos hg]
  have hg' := hg
  unfold Cfg.good at hg'
  by_cases h : (l.length : Int) = 16 + c.message
  rotate_left
  · rw [if_neg h]
    repeat (first | refine st ?_ | (refine sa ?_; intro _))
    refine VL_build (v := dropV drop0) .none rfl (fun w => by kernel_rfl) rfl ?_
    apply VL_storeW (k := 1); exact .none; exact rfl; exact rfl; exact rfl; exact rfl; exact rfl; exact rfl; exact rfl; exact NF.zero _
    repeat (first | refine st ?_ | (refine sa ?_; intro _))
    apply VE_retCTT (k := 1); exact rfl; infer_instance; exact rfl; exact rfl; exact rfl; exact rfl; exact rfl; exact rfl
    exact fun w s => ⟨_, rfl, AnsD.none s⟩
  rw [if_pos h]
  dsimp only
  repeat (first | refine st ?_ | (refine sa ?_; intro _))
  rename_i cb rb db
  have hl16 : (l.take 16).length = 16 := by simp; omega
  refine VC_cutB ⟨fun _ : Unit => True, fun _ => [(1, .slice A l.length ca), (4, .pointer (some ⟨rb, 0, none⟩)), (7, .pointer (some ⟨db, 0, none⟩))], fun _ => [], fun _ => [Blk rb (drop0.map u8) 31, Blk db ((l.take 16).map u8) 31]⟩ ?_ ?_
  · refine VC_loop ⟨fun k : Nat => k ≤ 16, fun k => [(1, .slice A l.length ca), (4, .pointer (some ⟨rb, 0, none⟩)), (7, .pointer (some ⟨db, 0, none⟩)), (8, i64 (k : Int))], fun _ => [], fun k => [Blk rb (drop0.map u8) 31, Blk db (((l.take 16).take k ++ List.replicate (16 - k) 0).map u8) 31]⟩ (fun k => 16 - k) 0 (by simp) ⟨rfl, rfl, rfl, rfl, trivial⟩ (fun _ s => by dsimp only; rw [List.take_zero]; exact s.pick [1, 2] (by decide)) ?_
    rintro k hk
    dsimp only at hk ⊢
    by_cases hk16 : k < 16
    · repeat (first | refine st ?_ | (refine sa ?_; intro _))
      apply VL_storeH1 (k := 1) (off := 0 + k); exact .none; exact rfl; exact rfl; exact rfl; exact rfl; (simp; omega); exact NF.zero _
      repeat (first | refine st ?_ | (refine sa ?_; intro _))
      refine VE_fam (k + 1) (by (try dsimp only); omega) (by (try dsimp only); omega) ⟨rfl, rfl, rfl, rfl, trivial⟩ (fun _ s => ?_)
      have e1 : l.getD k 0 = (l.take 16).getD k 0 := by simp [List.getD, List.getElem?_take, hk16]
      have s' : St w [] [Blk rb (drop0.map u8) 31, Blk db ((((l.take 16).take k ++ List.replicate (16 - k) 0).map u8).set (0 + k) (u8 (l.getD k 0))) 31] _ := s
      rw [Nat.zero_add, ← List.map_set, e1, fill_step _ k 16 (by omega) hl16] at s'
      exact s'
    · have hk' : k = 16 := by omega
      subst hk'
      repeat (first | refine st ?_ | (refine sa ?_; intro _))
      refine VE_fam () trivial trivial ⟨rfl, rfl, rfl, trivial⟩ (fun _ s => ?_)
      rw [List.take_take, Nat.min_self, Nat.sub_self, List.replicate_zero, List.append_nil] at s
      exact s
  rintro - -
  dsimp only
  have hsplit : Rd w A ((l.take 16).map u8 ++ (l.drop 16).map u8) := by rw [← List.map_append, List.take_append_drop]; exact hA
  have hm16 : ((l.take 16).map u8).length = 16 := by rw [List.length_map]; exact hl16
  refine VC_seq ?_
  refine VC_draw (S := fun w' => St w [] [Blk db ((l.take 16).map u8) 31] w') mixed (fun _ s => s.pick [1] (by decide)) ?_
  refine tk (v := dropV (l.take 16)) 0 ?_ (hS := fun w1 h1 => ⟨_, h1, Y_loadW (k := 0) rfl rfl rfl hm16⟩)
  refine tk 1 ?_
  refine tk 2 ?_ (hS := fun w1 h1 => ⟨_, h1, Y_slice_lo' (i' := 16) rfl rfl rfl (by omega)⟩)
  apply VA_step 3; exact rfl; kernel_rfl
  apply VL_call; exact .none; exact rfl; exact rfl
  · intro w1 s
    have q := copyBytes w1 _ (ca - 16) (l.drop 16) (s.rd (hsplit.split (c := ca) hm16 (by simp; omega))) (by simp; omega)
    rw [List.length_drop] at q
    exact q
  rintro w1 v w2 s ⟨e2, A2, c2, rfl, ho, t⟩
  refine ⟨_, _, s.comp0 t, VL_nil (VA_back (fun w s => s.pick [1] (by decide)) ?_)⟩
  apply VA_step 4; exact rfl; kernel_rfl
  apply VL_storeW (k := 0); exact .none; exact rfl; exact rfl; exact rfl; exact hm16; exact all_u8 _; exact rfl; exact rfl; exact NF.zero _
  refine VL_nil (VA_back (fun w s => s.pick [1] (by decide)) ?_)
  refine tk 5 ?_
  refine tk 6 ?_
  refine VA_done (by kernel_rfl) ?_
  repeat (first | refine st ?_ | (refine sa ?_; intro _))
  apply VE_retCTT (k := 0); exact rfl; infer_instance; exact rfl; exact rfl; exact rfl; exact rfl; exact rfl; exact hm16
  exact fun w s => ⟨_, rfl, e2, A2, c2, by simp, ho, s.pick [2] (by decide)⟩

theorem refTalkReply (w : World) (c : Cfg) (there : Bool) (A : Option Addr) (ca : Nat) (l : List UInt8) (hA : Rd w A (l.map u8)) :
    Calls Tryd.prog 20 #[c.val, .bool there, .slice A l.length ca] w (Ret (Ans (talkRep c there l).1 (talkRep c there l).2 w)) := by
  refine enter (args := [_, _, _]) Tryd.func20 rfl rfl rfl ?_
  repeat (first | refine st ?_ | (refine sa ?_; intro _))
  apply VL_loadW (k := 0); (first | exact .none | exact .yes rfl rfl); exact rfl; exact rfl; exact rfl; exact rfl; exact rfl
  apply VL_call; exact .none; exact rfl; exact rfl
  · intro w1 s; exact refCheck w1 c
  rintro w1 v w2 s ⟨rfl, t⟩
  refine ⟨_, _, s.comp t, ?_⟩
  unfold talkRep
  by_cases hg : c.good
  rotate_left
  · rw [if_neg hg, if_neg hg]
    repeat (first | refine st ?_ | (refine sa ?_; intro _))
    exact VE_ret2 rfl rfl rfl (fun w s => ⟨_, rfl, Ans.none s⟩)
  rw [if_pos hg, if_pos hg]
  have hg' := hg
  unfold Cfg.good at hg'
  by_cases h : (l.length : Int) = c.message
  rotate_left
  · rw [if_neg h]
    repeat (first | refine st ?_ | (refine sa ?_; intro _))
    exact VE_ret2 rfl rfl rfl (fun w s => ⟨_, rfl, Ans.none s⟩)
  rw [if_pos h]
  cases there
  · repeat (first | refine st ?_ | (refine sa ?_; intro _))
    refine VL_makeSlice .none rfl rfl rfl (l' := 1 + c.message.toNat) (c' := 1 + c.message.toNat) (by omega) (by omega) (by omega) (by omega) (by omega) rfl (fun e0 A0 h0 => ?_)
    repeat (first | refine st ?_ | (refine sa ?_; intro _))
    refine VE_ret2 rfl rfl rfl (fun w s => ⟨_, rfl, e0, A0, 1 + c.message.toNat, by simp, ?_, s.pick [1] (by decide)⟩)
    simpa using h0
  · repeat (first | refine st ?_ | (refine sa ?_; intro _))
    apply VL_buildSlice1; exact .none; exact rfl; exact rfl; exact rfl; exact rfl; exact rfl; exact rfl; exact rfl
    intro b
    repeat (first | refine st ?_ | (refine sa ?_; intro _))
    apply VL_call; exact .none; exact rfl; exact rfl
    · intro w1 s; exact two w1 (some ⟨b, 0, none⟩) A 1 ca [1] l (s.rdH (k := 1) rfl) (s.rd hA) (by simp; omega)
    rintro w1 v w2 s ⟨e2, A2, c2, rfl, h2, t⟩
    refine ⟨_, _, s.comp0 t, ?_⟩
    repeat (first | refine st ?_ | (refine sa ?_; intro _))
    exact VE_ret2 rfl rfl rfl (fun w s => ⟨_, rfl, e2, A2, c2, rfl, h2, s.pick [2] (by decide)⟩)

set_option maxHeartbeats 1000000 in
theorem refParseReply (w : World) (c : Cfg) (A : Option Addr) (ca : Nat) (l : List UInt8) (hA : Rd w A (l.map u8)) (hca : l.length ≤ ca) (hm : -9223372036854775808 ≤ c.message ∧ c.message ≤ 9223372036854775807) :
    Calls Tryd.prog 24 #[c.val, .slice A l.length ca] w (Ret (AnsB (repParsed c l).1 (repParsed c l).2.1 (repParsed c l).2.2 w)) := by
  refine enter (args := [_, _]) Tryd.func24 rfl rfl rfl ?_
  repeat (first | refine st ?_ | (refine sa ?_; intro _))
  apply VL_loadW (k := 0); (first | exact .none | exact .yes rfl rfl); exact rfl; exact rfl; exact rfl; exact rfl; exact rfl
  apply VL_call; exact .none; exact rfl; exact rfl
  · intro w1 s; exact refCheck w1 c
  rintro w1 v w2 s ⟨rfl, t⟩
  refine ⟨_, _, s.comp t, ?_⟩
  unfold repParsed
  by_cases hg : c.good
  rotate_left
  · rw [if_neg hg, if_neg hg]
    repeat (first | refine st ?_ | (refine sa ?_; intro _))
    exact VE_ret3 rfl rfl rfl rfl (fun w s => ⟨_, rfl, AnsB.none s⟩)
  rw [if_pos hg, if_pos hg]
  have hg' := hg
  unfold Cfg.good at hg'
  by_cases h : (l.length : Int) = 1 + c.message
  rotate_left
  · rw [if_neg h]
    repeat (first | refine st ?_ | (refine sa ?_; intro _))
    exact VE_ret3 rfl rfl rfl rfl (fun w s => ⟨_, rfl, AnsB.none s⟩)
  rw [if_pos h]
  obtain ⟨x, r, rfl⟩ : ∃ x r, l = x :: r := by
    cases l with
    | nil => simp at h; omega
    | cons x r => exact ⟨x, r, rfl⟩
  simp only [List.length_cons] at h hca
  have hsplit : Rd w A ([u8 x] ++ r.map u8) := by simpa using hA
  have hr := hsplit.split (c := ca) (k := 1) rfl (by simp; omega)
  clear hsplit
  have el : (x :: r).length = r.length + 1 := rfl
  repeat (first | refine st ?_ | (refine sa ?_; intro _))
  apply VL_load; exact .none; exact rfl; exact rfl; exact fun w s => s.ocell (hA.cell (i := 0) rfl); exact rfl
  by_cases h1 : (1 : Int) < (x.toNat : Int)
  · dsimp only
    rw [if_pos (.inl (by omega))]
    repeat (first | refine st ?_ | (refine sa ?_; intro _))
    exact VE_ret3 rfl rfl rfl rfl (fun w s => ⟨_, rfl, AnsB.none s⟩)
  by_cases h0 : (x.toNat : Int) = 0
  · have hx0 : x = 0 := UInt8.toNat_inj.1 (by show x.toNat = 0; omega)
    repeat (first | refine st ?_ | (refine sa ?_; intro _))
    apply VL_load; exact .yes rfl rfl; exact rfl; exact rfl; exact fun w s => s.ocell (hA.cell (i := 0) rfl); exact rfl
    repeat (first | refine st ?_ | (refine sa ?_; intro _))
    refine VL_makeSlice (.yes rfl rfl) rfl rfl rfl (l' := r.length + 1) (c' := r.length + 1) rfl rfl (by omega) (by omega) (by omega) rfl (fun e0 A0 h0' => ?_)
    apply VL_call; exact .yes rfl rfl; exact rfl; exact rfl
    · intro w1 s
      have q := eqBytes w1 A A0 ca (r.length + 1) (x :: r) (List.replicate (r.length + 1) 0) (s.rd hA) (by have := s.rdO (k := 1) rfl h0'; simpa using this) (by simp; omega)
      rw [List.length_replicate] at q; exact q
    rintro w1 v w2 s ⟨rfl, t⟩
    refine ⟨_, _, s.comp t, ?_⟩
    have hiff : (x :: r = List.replicate (r.length + 1) 0) ↔ (orAll r).toNat = 0 := by
      rw [hx0, List.replicate_succ, List.cons.injEq]
      constructor
      · rintro ⟨-, h2⟩; rw [(orAll_zero r).2 h2]; rfl
      · intro h2; exact ⟨rfl, (orAll_zero r).1 (UInt8.toNat_inj.1 h2)⟩
    by_cases ho : (orAll r).toNat = 0
    · rw [decide_eq_true (hiff.2 ho)]
      dsimp only
      rw [if_neg (by omega)]
      repeat (first | refine st ?_ | (refine sa ?_; intro _))
      refine VC_draw (S := fun w' => St w [] [] w') mixed (fun _ s => s.drop) ?_
      refine tk 0 ?_
      refine tk 1 ?_
      refine tk (v := u8 x) 2 ?_ (hS := fun w1 h1 => ⟨_, h1, Y_load rfl rfl (fun w2 s2 => s2.ocell (hA.cell (i := 0) rfl))⟩)
      refine tk 3 ?_
      refine tk 4 ?_
      refine tk 5 ?_ (hS := fun w1 h1 => ⟨_, h1, Y_slice_lo' (i' := 1) rfl rfl rfl (by omega)⟩)
      apply VA_step 6; exact rfl; kernel_rfl
      apply VL_call; exact .none; exact rfl; exact rfl
      · intro w1 s; exact copyBytes w1 _ (ca - 1) r (s.rd hr) (by omega)
      rintro w1 v w2 s ⟨e2, A2, c2, rfl, ho', t⟩
      refine ⟨_, _, s.comp0 t, VL_nil (VA_back (fun w s => s.drop) ?_)⟩
      refine tk 7 ?_
      refine tk 8 ?_
      refine tk 9 ?_
      refine VA_done (by kernel_rfl) ?_
      repeat (first | refine st ?_ | (refine sa ?_; intro _))
      exact VE_ret3 rfl rfl rfl rfl (fun w s => ⟨_, rfl, e2, A2, c2, rfl, ho', s.pick [2] (by decide)⟩)
    · rw [decide_eq_false (fun e => ho (hiff.1 e))]
      dsimp only
      rw [if_pos (.inr ⟨by omega, ho⟩)]
      repeat (first | refine st ?_ | (refine sa ?_; intro _))
      exact VE_ret3 rfl rfl rfl rfl (fun w s => ⟨_, rfl, AnsB.none s⟩)
  · dsimp only
    rw [if_neg (by omega)]
    repeat (first | refine st ?_ | (refine sa ?_; intro _))
    apply VL_load; exact .yes rfl rfl; exact rfl; exact rfl; exact fun w s => s.ocell (hA.cell (i := 0) rfl); exact rfl
    repeat (first | refine st ?_ | (refine sa ?_; intro _))
    refine VC_draw (S := fun w' => St w [] [] w') mixed (fun _ s => s.drop) ?_
    refine tk 0 ?_
    refine tk 1 ?_
    refine tk (v := u8 x) 2 ?_ (hS := fun w1 h1 => ⟨_, h1, Y_load rfl rfl (fun w2 s2 => s2.ocell (hA.cell (i := 0) rfl))⟩)
    refine tk 3 ?_
    refine tk 4 ?_
    refine tk 5 ?_ (hS := fun w1 h1 => ⟨_, h1, Y_slice_lo' (i' := 1) rfl rfl rfl (by omega)⟩)
    apply VA_step 6; exact rfl; kernel_rfl
    apply VL_call; exact .none; exact rfl; exact rfl
    · intro w1 s; exact copyBytes w1 _ (ca - 1) r (s.rd hr) (by omega)
    rintro w1 v w2 s ⟨e2, A2, c2, rfl, ho', t⟩
    refine ⟨_, _, s.comp0 t, VL_nil (VA_back (fun w s => s.drop) ?_)⟩
    refine tk 7 ?_
    refine tk 8 ?_
    refine tk 9 ?_
    refine VA_done (by kernel_rfl) ?_
    repeat (first | refine st ?_ | (refine sa ?_; intro _))
    exact VE_ret3 rfl rfl rfl rfl (fun w s => ⟨_, rfl, e2, A2, c2, rfl, ho', s.pick [1] (by decide)⟩)
end Go.Proofs.YtpboahlpgfglkaaDoor.X
