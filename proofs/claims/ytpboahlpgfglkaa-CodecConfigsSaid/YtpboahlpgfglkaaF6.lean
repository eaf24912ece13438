/-
  Contract: a config read off bytes, by the document.
-/
import Derived.Test.YtpboahlpgfglkaaF5
namespace Go.Proofs.Ytpboahlpgfglkaa.X
open Go Go.RowKit
set_option linter.unusedVariables false
set_option linter.unusedSimpArgs false
set_option maxRecDepth 100000

theorem part4 {w : World} {A : Option Addr} {l : List UInt8} {ca k : Nat} (hA : Rd w A (l.map u8)) (hl : l.length = 24) (hk : k ≤ 20) (hc : 24 ≤ ca) :
    Rd w (if ca = k then A else A.map (·.add (k * 1))) (((l.drop k).take 4).map u8) :=
  hA.sub (sub_mk (k := k * 1) rfl) (by simp; omega) (fun j v hj => by
    rw [List.getElem?_map] at hj ⊢
    rw [List.getElem?_take, List.getElem?_drop] at hj
    split at hj
    · simpa using hj
    · simp at hj)
theorem len4 {l : List UInt8} {k : Nat} (hl : l.length = 24) (hk : k ≤ 20) : ((l.drop k).take 4).length = 4 := by simp; omega

set_option maxHeartbeats 4000000 in
theorem refParseConfig (w : World) (A : Option Addr) (ca : Nat) (l : List UInt8) (hA : Rd w A (l.map u8)) (hl : l.length ≤ 140737488355328) (hca : l.length ≤ ca) :
    Calls Try.prog 6 #[.slice A l.length ca] w (Ret fun v w' => v = .tuple #[(parseCfg l).1.val, i64 (parseCfg l).2] ∧ St w [] [] w') := by
  by_cases h24 : l.length = 24
  · refine enter (args := [_]) Try.func6 rfl rfl rfl ?_
    refine VC_seq ?_
    repeat (first | refine sz ?_ | (refine sa ?_; intro _))
    refine VC_seq ?_
    repeat (first | refine sz ?_ | (refine sa ?_; intro _))
    refine VC_seq ?_
    repeat (first | refine sz ?_ | (refine sa ?_; intro _))
    rename_i r
    refine VC_seq_cut ⟨fun c : Nat => True, fun c => [(2, .pointer (some ⟨r, 0, none⟩)), (4, .pointer (some ⟨c, 0, none⟩))], fun _ => [], fun c => [Blk r [i64 0, i64 0, i64 0, i64 0, i64 0, i64 0] 25, Blk c (cfgCells l 6) 25]⟩ ?_ ?_
    rotate_left
    · intro c _
      dsimp only
      have hcell : cfgCells l 6 = [i64 (cfgRead l).batch, i64 (cfgRead l).message, i64 (cfgRead l).buckets, i64 (cfgRead l).text, i64 (cfgRead l).window, i64 (cfgRead l).workers] := rfl
      have hpc : parseCfg l = if (cfgRead l).good then (cfgRead l, 0) else (cfgZero, 200) := if_pos h24
      rw [hcell, hpc]
      repeat (first | refine st ?_ | (refine sa ?_; intro _))
      apply VL_loadW (k := 1); exact .none; exact rfl; exact rfl; exact rfl; exact rfl; exact rfl
      apply VL_call; exact .none; exact rfl; exact rfl
      · intro w3 s3; exact refCheck w3 (cfgRead l)
      rintro w3 v w4 s3 ⟨rfl, t3⟩
      refine ⟨_, _, s3.comp t3, ?_⟩
      by_cases hg : (cfgRead l).good
      · rw [if_pos hg, if_pos hg]
        repeat (first | refine st ?_ | (refine sa ?_; intro _))
        apply VL_loadW (k := 1); exact .none; exact rfl; exact rfl; exact rfl; exact rfl; exact rfl
        apply VL_storeW (k := 0); exact .none; exact rfl; exact rfl; exact rfl; exact rfl; exact rfl; exact rfl; exact rfl; exact NF.zero _
        repeat (first | refine st ?_ | (refine sa ?_; intro _))
        apply VE_retCT (k := 0); exact rfl; infer_instance; exact rfl; exact rfl; exact rfl; exact rfl; exact rfl
        exact fun w s => ⟨_, rfl, rfl, s.drop⟩
      · rw [if_neg hg, if_neg hg]
        repeat (first | refine st ?_ | (refine sa ?_; intro _))
        refine VL_build (v := cfgZero.val) .none rfl (fun w => by kernel_rfl) rfl ?_
        repeat (first | refine st ?_ | (refine sa ?_; intro _))
        apply VL_storeW (k := 0); exact .none; exact rfl; exact rfl; exact rfl; exact rfl; exact rfl; exact rfl; exact rfl; exact NF.zero _
        repeat (first | refine st ?_ | (refine sa ?_; intro _))
        apply VE_retCT (k := 0); exact rfl; infer_instance; exact rfl; exact rfl; exact rfl; exact rfl; exact rfl
        exact fun w s => ⟨_, rfl, rfl, s.drop⟩
    refine VC_draw (S := fun w' => St w [] [Blk r [i64 0, i64 0, i64 0, i64 0, i64 0, i64 0] 25] w') mixed (fun _ h => h) ?_
    apply VA_take 0; exact rfl; exact rfl; kernel_rfl; kernel_rfl; kernel_rfl; exact fun _ _ _ h => h; exact .none; (intro w1 h1; refine ⟨_, h1, ?_⟩; apply Y_move; exact rfl); exact rfl
    apply VA_take 1; exact rfl; exact rfl; kernel_rfl; kernel_rfl; kernel_rfl; exact fun _ _ _ h => h; exact .none; (intro w1 h1; refine ⟨_, h1, ?_⟩; apply Y_slice_lohi (i' := 0) (j' := 4); exact rfl; exact rfl; exact rfl; exact rfl; exact rfl; omega; omega); exact rfl
    apply VA_take 3; exact rfl; exact rfl; kernel_rfl; kernel_rfl; kernel_rfl; exact fun _ _ _ h => h; exact .none; (intro w1 h1; refine ⟨_, h1, ?_⟩; apply Y_move; exact rfl); exact rfl
    apply VA_take 4; exact rfl; exact rfl; kernel_rfl; kernel_rfl; kernel_rfl; exact fun _ _ _ h => h; exact .none; (intro w1 h1; refine ⟨_, h1, ?_⟩; apply Y_slice_lohi (i' := 4) (j' := 8); exact rfl; exact rfl; exact rfl; exact rfl; exact rfl; omega; omega); exact rfl
    apply VA_take 6; exact rfl; exact rfl; kernel_rfl; kernel_rfl; kernel_rfl; exact fun _ _ _ h => h; exact .none; (intro w1 h1; refine ⟨_, h1, ?_⟩; apply Y_move; exact rfl); exact rfl
    apply VA_take 7; exact rfl; exact rfl; kernel_rfl; kernel_rfl; kernel_rfl; exact fun _ _ _ h => h; exact .none; (intro w1 h1; refine ⟨_, h1, ?_⟩; apply Y_slice_lohi (i' := 8) (j' := 12); exact rfl; exact rfl; exact rfl; exact rfl; exact rfl; omega; omega); exact rfl
    apply VA_take 9; exact rfl; exact rfl; kernel_rfl; kernel_rfl; kernel_rfl; exact fun _ _ _ h => h; exact .none; (intro w1 h1; refine ⟨_, h1, ?_⟩; apply Y_move; exact rfl); exact rfl
    apply VA_take 10; exact rfl; exact rfl; kernel_rfl; kernel_rfl; kernel_rfl; exact fun _ _ _ h => h; exact .none; (intro w1 h1; refine ⟨_, h1, ?_⟩; apply Y_slice_lohi (i' := 12) (j' := 16); exact rfl; exact rfl; exact rfl; exact rfl; exact rfl; omega; omega); exact rfl
    apply VA_take 12; exact rfl; exact rfl; kernel_rfl; kernel_rfl; kernel_rfl; exact fun _ _ _ h => h; exact .none; (intro w1 h1; refine ⟨_, h1, ?_⟩; apply Y_move; exact rfl); exact rfl
    apply VA_take 13; exact rfl; exact rfl; kernel_rfl; kernel_rfl; kernel_rfl; exact fun _ _ _ h => h; exact .none; (intro w1 h1; refine ⟨_, h1, ?_⟩; apply Y_slice_lohi (i' := 16) (j' := 20); exact rfl; exact rfl; exact rfl; exact rfl; exact rfl; omega; omega); exact rfl
    apply VA_take 15; exact rfl; exact rfl; kernel_rfl; kernel_rfl; kernel_rfl; exact fun _ _ _ h => h; exact .none; (intro w1 h1; refine ⟨_, h1, ?_⟩; apply Y_move; exact rfl); exact rfl
    apply VA_take 16; exact rfl; exact rfl; kernel_rfl; kernel_rfl; kernel_rfl; exact fun _ _ _ h => h; exact .none; (intro w1 h1; refine ⟨_, h1, ?_⟩; apply Y_slice_lohi (i' := 20) (j' := 24); exact rfl; exact rfl; exact rfl; exact rfl; exact rfl; omega; omega); exact rfl
    apply VA_two 2 19; exact rfl; exact rfl; kernel_rfl
    rotate_left
    · apply VL_alloc; exact .none; exact rfl; exact rfl; intro c; refine VL_nil (VA_back (fun w s => s.perm (by simp)) ?_)
      apply VA_step 2; exact rfl; kernel_rfl
      apply VL_call; exact .none; exact rfl; exact rfl
      · intro w1 s; have q := numberRef w1 _ (ca - 0) ((l.drop 0).take 4) (part4 (ca := ca) (k := 0) (s.rd hA) h24 (by decide) (by omega)) (by rw [len4 h24 (by decide)]; omega); rw [len4 h24 (by decide)] at q; exact q
      rintro w1 v w2 s ⟨rfl, t⟩
      refine ⟨_, _, s.comp t, VL_nil (VA_back (fun w s => s.perm (by simp)) ?_)⟩
      apply VA_step 5; exact rfl; kernel_rfl
      apply VL_call; exact .none; exact rfl; exact rfl
      · intro w1 s; have q := numberRef w1 _ (ca - 4) ((l.drop 4).take 4) (part4 (ca := ca) (k := 4) (s.rd hA) h24 (by decide) (by omega)) (by rw [len4 h24 (by decide)]; omega); rw [len4 h24 (by decide)] at q; exact q
      rintro w1 v w2 s ⟨rfl, t⟩
      refine ⟨_, _, s.comp t, VL_nil (VA_back (fun w s => s.perm (by simp)) ?_)⟩
      apply VA_step 8; exact rfl; kernel_rfl
      apply VL_call; exact .none; exact rfl; exact rfl
      · intro w1 s; have q := numberRef w1 _ (ca - 8) ((l.drop 8).take 4) (part4 (ca := ca) (k := 8) (s.rd hA) h24 (by decide) (by omega)) (by rw [len4 h24 (by decide)]; omega); rw [len4 h24 (by decide)] at q; exact q
      rintro w1 v w2 s ⟨rfl, t⟩
      refine ⟨_, _, s.comp t, VL_nil (VA_back (fun w s => s.perm (by simp)) ?_)⟩
      apply VA_step 11; exact rfl; kernel_rfl
      apply VL_call; exact .none; exact rfl; exact rfl
      · intro w1 s; have q := numberRef w1 _ (ca - 12) ((l.drop 12).take 4) (part4 (ca := ca) (k := 12) (s.rd hA) h24 (by decide) (by omega)) (by rw [len4 h24 (by decide)]; omega); rw [len4 h24 (by decide)] at q; exact q
      rintro w1 v w2 s ⟨rfl, t⟩
      refine ⟨_, _, s.comp t, VL_nil (VA_back (fun w s => s.perm (by simp)) ?_)⟩
      apply VA_step 14; exact rfl; kernel_rfl
      apply VL_call; exact .none; exact rfl; exact rfl
      · intro w1 s; have q := numberRef w1 _ (ca - 16) ((l.drop 16).take 4) (part4 (ca := ca) (k := 16) (s.rd hA) h24 (by decide) (by omega)) (by rw [len4 h24 (by decide)]; omega); rw [len4 h24 (by decide)] at q; exact q
      rintro w1 v w2 s ⟨rfl, t⟩
      refine ⟨_, _, s.comp t, VL_nil (VA_back (fun w s => s.perm (by simp)) ?_)⟩
      apply VA_step 17; exact rfl; kernel_rfl
      apply VL_call; exact .none; exact rfl; exact rfl
      · intro w1 s; have q := numberRef w1 _ (ca - 20) ((l.drop 20).take 4) (part4 (ca := ca) (k := 20) (s.rd hA) h24 (by decide) (by omega)) (by rw [len4 h24 (by decide)]; omega); rw [len4 h24 (by decide)] at q; exact q
      rintro w1 v w2 s ⟨rfl, t⟩
      refine ⟨_, _, s.comp t, VL_nil (VA_back (fun w s => s.perm (by simp)) ?_)⟩
      apply VA_take 18; exact rfl; exact rfl; kernel_rfl; kernel_rfl; kernel_rfl; exact fun _ _ _ h => h; exact .none; (intro w1 h1; exact ⟨_, h1, Y_build (v := (cfgRead l).val) rfl (fun w => by kernel_rfl)⟩); exact rfl
      apply VA_step 20; exact rfl; kernel_rfl
      apply VL_storeW (k := 1); exact .none; exact rfl; exact rfl; exact rfl; exact rfl; exact rfl; exact rfl; exact rfl; exact NF.zero _
      refine VL_nil (VA_back (fun w s => s.perm (by simp)) ?_)
      exact VA_done (by kernel_rfl) (VE_fam c trivial trivial ⟨rfl, rfl, trivial⟩ (fun _ s => s))
    apply VL_call; exact .none; exact rfl; exact rfl
    · intro w1 s; have q := numberRef w1 _ (ca - 0) ((l.drop 0).take 4) (part4 (ca := ca) (k := 0) (s.rd hA) h24 (by decide) (by omega)) (by rw [len4 h24 (by decide)]; omega); rw [len4 h24 (by decide)] at q; exact q
    rintro w1 v w2 s ⟨rfl, t⟩
    refine ⟨_, _, s.comp t, VL_nil (VA_back (fun w s => s) ?_)⟩
    apply VA_two 5 19; exact rfl; exact rfl; kernel_rfl
    rotate_left
    · apply VL_alloc; exact .none; exact rfl; exact rfl; intro c; refine VL_nil (VA_back (fun w s => s.perm (by simp)) ?_)
      apply VA_step 5; exact rfl; kernel_rfl
      apply VL_call; exact .none; exact rfl; exact rfl
      · intro w1 s; have q := numberRef w1 _ (ca - 4) ((l.drop 4).take 4) (part4 (ca := ca) (k := 4) (s.rd hA) h24 (by decide) (by omega)) (by rw [len4 h24 (by decide)]; omega); rw [len4 h24 (by decide)] at q; exact q
      rintro w1 v w2 s ⟨rfl, t⟩
      refine ⟨_, _, s.comp t, VL_nil (VA_back (fun w s => s.perm (by simp)) ?_)⟩
      apply VA_step 8; exact rfl; kernel_rfl
      apply VL_call; exact .none; exact rfl; exact rfl
      · intro w1 s; have q := numberRef w1 _ (ca - 8) ((l.drop 8).take 4) (part4 (ca := ca) (k := 8) (s.rd hA) h24 (by decide) (by omega)) (by rw [len4 h24 (by decide)]; omega); rw [len4 h24 (by decide)] at q; exact q
      rintro w1 v w2 s ⟨rfl, t⟩
      refine ⟨_, _, s.comp t, VL_nil (VA_back (fun w s => s.perm (by simp)) ?_)⟩
      apply VA_step 11; exact rfl; kernel_rfl
      apply VL_call; exact .none; exact rfl; exact rfl
      · intro w1 s; have q := numberRef w1 _ (ca - 12) ((l.drop 12).take 4) (part4 (ca := ca) (k := 12) (s.rd hA) h24 (by decide) (by omega)) (by rw [len4 h24 (by decide)]; omega); rw [len4 h24 (by decide)] at q; exact q
      rintro w1 v w2 s ⟨rfl, t⟩
      refine ⟨_, _, s.comp t, VL_nil (VA_back (fun w s => s.perm (by simp)) ?_)⟩
      apply VA_step 14; exact rfl; kernel_rfl
      apply VL_call; exact .none; exact rfl; exact rfl
      · intro w1 s; have q := numberRef w1 _ (ca - 16) ((l.drop 16).take 4) (part4 (ca := ca) (k := 16) (s.rd hA) h24 (by decide) (by omega)) (by rw [len4 h24 (by decide)]; omega); rw [len4 h24 (by decide)] at q; exact q
      rintro w1 v w2 s ⟨rfl, t⟩
      refine ⟨_, _, s.comp t, VL_nil (VA_back (fun w s => s.perm (by simp)) ?_)⟩
      apply VA_step 17; exact rfl; kernel_rfl
      apply VL_call; exact .none; exact rfl; exact rfl
      · intro w1 s; have q := numberRef w1 _ (ca - 20) ((l.drop 20).take 4) (part4 (ca := ca) (k := 20) (s.rd hA) h24 (by decide) (by omega)) (by rw [len4 h24 (by decide)]; omega); rw [len4 h24 (by decide)] at q; exact q
      rintro w1 v w2 s ⟨rfl, t⟩
      refine ⟨_, _, s.comp t, VL_nil (VA_back (fun w s => s.perm (by simp)) ?_)⟩
      apply VA_take 18; exact rfl; exact rfl; kernel_rfl; kernel_rfl; kernel_rfl; exact fun _ _ _ h => h; exact .none; (intro w1 h1; exact ⟨_, h1, Y_build (v := (cfgRead l).val) rfl (fun w => by kernel_rfl)⟩); exact rfl
      apply VA_step 20; exact rfl; kernel_rfl
      apply VL_storeW (k := 1); exact .none; exact rfl; exact rfl; exact rfl; exact rfl; exact rfl; exact rfl; exact rfl; exact NF.zero _
      refine VL_nil (VA_back (fun w s => s.perm (by simp)) ?_)
      exact VA_done (by kernel_rfl) (VE_fam c trivial trivial ⟨rfl, rfl, trivial⟩ (fun _ s => s))
    apply VL_call; exact .none; exact rfl; exact rfl
    · intro w1 s; have q := numberRef w1 _ (ca - 4) ((l.drop 4).take 4) (part4 (ca := ca) (k := 4) (s.rd hA) h24 (by decide) (by omega)) (by rw [len4 h24 (by decide)]; omega); rw [len4 h24 (by decide)] at q; exact q
    rintro w1 v w2 s ⟨rfl, t⟩
    refine ⟨_, _, s.comp t, VL_nil (VA_back (fun w s => s) ?_)⟩
    apply VA_two 8 19; exact rfl; exact rfl; kernel_rfl
    rotate_left
    · apply VL_alloc; exact .none; exact rfl; exact rfl; intro c; refine VL_nil (VA_back (fun w s => s.perm (by simp)) ?_)
      apply VA_step 8; exact rfl; kernel_rfl
      apply VL_call; exact .none; exact rfl; exact rfl
      · intro w1 s; have q := numberRef w1 _ (ca - 8) ((l.drop 8).take 4) (part4 (ca := ca) (k := 8) (s.rd hA) h24 (by decide) (by omega)) (by rw [len4 h24 (by decide)]; omega); rw [len4 h24 (by decide)] at q; exact q
      rintro w1 v w2 s ⟨rfl, t⟩
      refine ⟨_, _, s.comp t, VL_nil (VA_back (fun w s => s.perm (by simp)) ?_)⟩
      apply VA_step 11; exact rfl; kernel_rfl
      apply VL_call; exact .none; exact rfl; exact rfl
      · intro w1 s; have q := numberRef w1 _ (ca - 12) ((l.drop 12).take 4) (part4 (ca := ca) (k := 12) (s.rd hA) h24 (by decide) (by omega)) (by rw [len4 h24 (by decide)]; omega); rw [len4 h24 (by decide)] at q; exact q
      rintro w1 v w2 s ⟨rfl, t⟩
      refine ⟨_, _, s.comp t, VL_nil (VA_back (fun w s => s.perm (by simp)) ?_)⟩
      apply VA_step 14; exact rfl; kernel_rfl
      apply VL_call; exact .none; exact rfl; exact rfl
      · intro w1 s; have q := numberRef w1 _ (ca - 16) ((l.drop 16).take 4) (part4 (ca := ca) (k := 16) (s.rd hA) h24 (by decide) (by omega)) (by rw [len4 h24 (by decide)]; omega); rw [len4 h24 (by decide)] at q; exact q
      rintro w1 v w2 s ⟨rfl, t⟩
      refine ⟨_, _, s.comp t, VL_nil (VA_back (fun w s => s.perm (by simp)) ?_)⟩
      apply VA_step 17; exact rfl; kernel_rfl
      apply VL_call; exact .none; exact rfl; exact rfl
      · intro w1 s; have q := numberRef w1 _ (ca - 20) ((l.drop 20).take 4) (part4 (ca := ca) (k := 20) (s.rd hA) h24 (by decide) (by omega)) (by rw [len4 h24 (by decide)]; omega); rw [len4 h24 (by decide)] at q; exact q
      rintro w1 v w2 s ⟨rfl, t⟩
      refine ⟨_, _, s.comp t, VL_nil (VA_back (fun w s => s.perm (by simp)) ?_)⟩
      apply VA_take 18; exact rfl; exact rfl; kernel_rfl; kernel_rfl; kernel_rfl; exact fun _ _ _ h => h; exact .none; (intro w1 h1; exact ⟨_, h1, Y_build (v := (cfgRead l).val) rfl (fun w => by kernel_rfl)⟩); exact rfl
      apply VA_step 20; exact rfl; kernel_rfl
      apply VL_storeW (k := 1); exact .none; exact rfl; exact rfl; exact rfl; exact rfl; exact rfl; exact rfl; exact rfl; exact NF.zero _
      refine VL_nil (VA_back (fun w s => s.perm (by simp)) ?_)
      exact VA_done (by kernel_rfl) (VE_fam c trivial trivial ⟨rfl, rfl, trivial⟩ (fun _ s => s))
    apply VL_call; exact .none; exact rfl; exact rfl
    · intro w1 s; have q := numberRef w1 _ (ca - 8) ((l.drop 8).take 4) (part4 (ca := ca) (k := 8) (s.rd hA) h24 (by decide) (by omega)) (by rw [len4 h24 (by decide)]; omega); rw [len4 h24 (by decide)] at q; exact q
    rintro w1 v w2 s ⟨rfl, t⟩
    refine ⟨_, _, s.comp t, VL_nil (VA_back (fun w s => s) ?_)⟩
    apply VA_two 11 19; exact rfl; exact rfl; kernel_rfl
    rotate_left
    · apply VL_alloc; exact .none; exact rfl; exact rfl; intro c; refine VL_nil (VA_back (fun w s => s.perm (by simp)) ?_)
      apply VA_step 11; exact rfl; kernel_rfl
      apply VL_call; exact .none; exact rfl; exact rfl
      · intro w1 s; have q := numberRef w1 _ (ca - 12) ((l.drop 12).take 4) (part4 (ca := ca) (k := 12) (s.rd hA) h24 (by decide) (by omega)) (by rw [len4 h24 (by decide)]; omega); rw [len4 h24 (by decide)] at q; exact q
      rintro w1 v w2 s ⟨rfl, t⟩
      refine ⟨_, _, s.comp t, VL_nil (VA_back (fun w s => s.perm (by simp)) ?_)⟩
      apply VA_step 14; exact rfl; kernel_rfl
      apply VL_call; exact .none; exact rfl; exact rfl
      · intro w1 s; have q := numberRef w1 _ (ca - 16) ((l.drop 16).take 4) (part4 (ca := ca) (k := 16) (s.rd hA) h24 (by decide) (by omega)) (by rw [len4 h24 (by decide)]; omega); rw [len4 h24 (by decide)] at q; exact q
      rintro w1 v w2 s ⟨rfl, t⟩
      refine ⟨_, _, s.comp t, VL_nil (VA_back (fun w s => s.perm (by simp)) ?_)⟩
      apply VA_step 17; exact rfl; kernel_rfl
      apply VL_call; exact .none; exact rfl; exact rfl
      · intro w1 s; have q := numberRef w1 _ (ca - 20) ((l.drop 20).take 4) (part4 (ca := ca) (k := 20) (s.rd hA) h24 (by decide) (by omega)) (by rw [len4 h24 (by decide)]; omega); rw [len4 h24 (by decide)] at q; exact q
      rintro w1 v w2 s ⟨rfl, t⟩
      refine ⟨_, _, s.comp t, VL_nil (VA_back (fun w s => s.perm (by simp)) ?_)⟩
      apply VA_take 18; exact rfl; exact rfl; kernel_rfl; kernel_rfl; kernel_rfl; exact fun _ _ _ h => h; exact .none; (intro w1 h1; exact ⟨_, h1, Y_build (v := (cfgRead l).val) rfl (fun w => by kernel_rfl)⟩); exact rfl
      apply VA_step 20; exact rfl; kernel_rfl
      apply VL_storeW (k := 1); exact .none; exact rfl; exact rfl; exact rfl; exact rfl; exact rfl; exact rfl; exact rfl; exact NF.zero _
      refine VL_nil (VA_back (fun w s => s.perm (by simp)) ?_)
      exact VA_done (by kernel_rfl) (VE_fam c trivial trivial ⟨rfl, rfl, trivial⟩ (fun _ s => s))
    apply VL_call; exact .none; exact rfl; exact rfl
    · intro w1 s; have q := numberRef w1 _ (ca - 12) ((l.drop 12).take 4) (part4 (ca := ca) (k := 12) (s.rd hA) h24 (by decide) (by omega)) (by rw [len4 h24 (by decide)]; omega); rw [len4 h24 (by decide)] at q; exact q
    rintro w1 v w2 s ⟨rfl, t⟩
    refine ⟨_, _, s.comp t, VL_nil (VA_back (fun w s => s) ?_)⟩
    apply VA_two 14 19; exact rfl; exact rfl; kernel_rfl
    rotate_left
    · apply VL_alloc; exact .none; exact rfl; exact rfl; intro c; refine VL_nil (VA_back (fun w s => s.perm (by simp)) ?_)
      apply VA_step 14; exact rfl; kernel_rfl
      apply VL_call; exact .none; exact rfl; exact rfl
      · intro w1 s; have q := numberRef w1 _ (ca - 16) ((l.drop 16).take 4) (part4 (ca := ca) (k := 16) (s.rd hA) h24 (by decide) (by omega)) (by rw [len4 h24 (by decide)]; omega); rw [len4 h24 (by decide)] at q; exact q
      rintro w1 v w2 s ⟨rfl, t⟩
      refine ⟨_, _, s.comp t, VL_nil (VA_back (fun w s => s.perm (by simp)) ?_)⟩
      apply VA_step 17; exact rfl; kernel_rfl
      apply VL_call; exact .none; exact rfl; exact rfl
      · intro w1 s; have q := numberRef w1 _ (ca - 20) ((l.drop 20).take 4) (part4 (ca := ca) (k := 20) (s.rd hA) h24 (by decide) (by omega)) (by rw [len4 h24 (by decide)]; omega); rw [len4 h24 (by decide)] at q; exact q
      rintro w1 v w2 s ⟨rfl, t⟩
      refine ⟨_, _, s.comp t, VL_nil (VA_back (fun w s => s.perm (by simp)) ?_)⟩
      apply VA_take 18; exact rfl; exact rfl; kernel_rfl; kernel_rfl; kernel_rfl; exact fun _ _ _ h => h; exact .none; (intro w1 h1; exact ⟨_, h1, Y_build (v := (cfgRead l).val) rfl (fun w => by kernel_rfl)⟩); exact rfl
      apply VA_step 20; exact rfl; kernel_rfl
      apply VL_storeW (k := 1); exact .none; exact rfl; exact rfl; exact rfl; exact rfl; exact rfl; exact rfl; exact rfl; exact NF.zero _
      refine VL_nil (VA_back (fun w s => s.perm (by simp)) ?_)
      exact VA_done (by kernel_rfl) (VE_fam c trivial trivial ⟨rfl, rfl, trivial⟩ (fun _ s => s))
    apply VL_call; exact .none; exact rfl; exact rfl
    · intro w1 s; have q := numberRef w1 _ (ca - 16) ((l.drop 16).take 4) (part4 (ca := ca) (k := 16) (s.rd hA) h24 (by decide) (by omega)) (by rw [len4 h24 (by decide)]; omega); rw [len4 h24 (by decide)] at q; exact q
    rintro w1 v w2 s ⟨rfl, t⟩
    refine ⟨_, _, s.comp t, VL_nil (VA_back (fun w s => s) ?_)⟩
    apply VA_two 17 19; exact rfl; exact rfl; kernel_rfl
    rotate_left
    · apply VL_alloc; exact .none; exact rfl; exact rfl; intro c; refine VL_nil (VA_back (fun w s => s.perm (by simp)) ?_)
      apply VA_step 17; exact rfl; kernel_rfl
      apply VL_call; exact .none; exact rfl; exact rfl
      · intro w1 s; have q := numberRef w1 _ (ca - 20) ((l.drop 20).take 4) (part4 (ca := ca) (k := 20) (s.rd hA) h24 (by decide) (by omega)) (by rw [len4 h24 (by decide)]; omega); rw [len4 h24 (by decide)] at q; exact q
      rintro w1 v w2 s ⟨rfl, t⟩
      refine ⟨_, _, s.comp t, VL_nil (VA_back (fun w s => s.perm (by simp)) ?_)⟩
      apply VA_take 18; exact rfl; exact rfl; kernel_rfl; kernel_rfl; kernel_rfl; exact fun _ _ _ h => h; exact .none; (intro w1 h1; exact ⟨_, h1, Y_build (v := (cfgRead l).val) rfl (fun w => by kernel_rfl)⟩); exact rfl
      apply VA_step 20; exact rfl; kernel_rfl
      apply VL_storeW (k := 1); exact .none; exact rfl; exact rfl; exact rfl; exact rfl; exact rfl; exact rfl; exact rfl; exact NF.zero _
      refine VL_nil (VA_back (fun w s => s.perm (by simp)) ?_)
      exact VA_done (by kernel_rfl) (VE_fam c trivial trivial ⟨rfl, rfl, trivial⟩ (fun _ s => s))
    apply VL_call; exact .none; exact rfl; exact rfl
    · intro w1 s; have q := numberRef w1 _ (ca - 20) ((l.drop 20).take 4) (part4 (ca := ca) (k := 20) (s.rd hA) h24 (by decide) (by omega)) (by rw [len4 h24 (by decide)]; omega); rw [len4 h24 (by decide)] at q; exact q
    rintro w1 v w2 s ⟨rfl, t⟩
    refine ⟨_, _, s.comp t, VL_nil (VA_back (fun w s => s) ?_)⟩
    apply VA_take 18; exact rfl; exact rfl; kernel_rfl; kernel_rfl; kernel_rfl; exact fun _ _ _ h => h; exact .none; (intro w1 h1; exact ⟨_, h1, Y_build (v := (cfgRead l).val) rfl (fun w => by kernel_rfl)⟩); exact rfl
    apply VA_step 19; exact rfl; kernel_rfl
    apply VL_alloc; exact .none; exact rfl; exact rfl; intro c; refine VL_nil (VA_back (fun w s => s.perm (by simp)) ?_)
    apply VA_step 20; exact rfl; kernel_rfl
    apply VL_storeW (k := 1); exact .none; exact rfl; exact rfl; exact rfl; exact rfl; exact rfl; exact rfl; exact rfl; exact NF.zero _
    refine VL_nil (VA_back (fun w s => s.perm (by simp)) ?_)
    exact VA_done (by kernel_rfl) (VE_fam c trivial trivial ⟨rfl, rfl, trivial⟩ (fun _ s => s))
  · refine enter (args := [_]) Try.func6 rfl rfl rfl ?_
    repeat (first | refine st ?_ | (refine sa ?_; intro _))
    refine VL_build (v := cfgZero.val) .none rfl (fun w => by kernel_rfl) rfl ?_
    repeat (first | refine st ?_ | (refine sa ?_; intro _))
    apply VL_storeW (k := 0); exact .none; exact rfl; exact rfl; exact rfl; exact rfl; exact rfl; exact rfl; exact rfl; exact NF.zero _
    repeat (first | refine st ?_ | (refine sa ?_; intro _))
    have hpc : parseCfg l = (cfgZero, 4) := if_neg h24
    rw [hpc]
    apply VE_retCT (k := 0); exact rfl; infer_instance; exact rfl; exact rfl; exact rfl; exact rfl; exact rfl
    exact fun w s => ⟨_, rfl, rfl, s.drop⟩
end Go.Proofs.Ytpboahlpgfglkaa.X
