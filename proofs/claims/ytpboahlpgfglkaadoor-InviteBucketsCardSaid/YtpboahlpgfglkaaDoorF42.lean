/-
  SHA-256 of a block: the document's words, keys, first state, round.
-/
import Derived.Test.YtpboahlpgfglkaaDoorF41
namespace Go.Proofs.YtpboahlpgfglkaaDoor.X
open Go Go.RowKit
set_option linter.unusedVariables false
set_option linter.unusedSimpArgs false
set_option maxRecDepth 100000

/-- the parts of the cube roots, and of the square roots, of the first primes (printed by a program of the session) -/
def Kt : List UInt32 := [1116352408, 1899447441, 3049323471, 3921009573, 961987163, 1508970993, 2453635748, 2870763221, 3624381080, 310598401, 607225278, 1426881987, 1925078388, 2162078206, 2614888103, 3248222580, 3835390401, 4022224774, 264347078, 604807628, 770255983, 1249150122, 1555081692, 1996064986, 2554220882, 2821834349, 2952996808, 3210313671, 3336571891, 3584528711, 113926993, 338241895, 666307205, 773529912, 1294757372, 1396182291, 1695183700, 1986661051, 2177026350, 2456956037, 2730485921, 2820302411, 3259730800, 3345764771, 3516065817, 3600352804, 4094571909, 275423344, 430227734, 506948616, 659060556, 883997877, 958139571, 1322822218, 1537002063, 1747873779, 1955562222, 2024104815, 2227730452, 2361852424, 2428436474, 2756734187, 3204031479, 3329325298]
def I0 : V8 := ⟨1779033703, 3144134277, 1013904242, 2773480762, 1359893119, 2600822924, 528734635, 1541459225⟩
theorem all_u32 (l : List UInt32) : (l.map u32).all (·.oneCell') = true := by simp [u32, Value.oneCell']
theorem Kt_length : Kt.length = 64 := by decide

theorem refWord (w : World) (A : Option Addr) (ca : Nat) (l : List UInt8) (n : Nat) (o : Int) (ho : o = ((4 * n : Nat) : Int)) (hn : 4 * n + 3 < l.length) (hl : l.length ≤ 140737488355328) (hA : Rd w A (l.map u8)) :
    Calls Tryd.prog 98 #[.slice A l.length ca, i64 o] w (Ret fun v w' => v = u32 (word l n) ∧ St w [] [] w') := by
  subst ho
  refine enter (args := [_, _]) Tryd.func98 rfl rfl rfl ?_
  have hcell : ∀ w', St w [] [] w' → ∀ k, k < l.length → w'.cell? (adr A k) = some (u8 (l.getD k 0)) := fun w' s k hk => s.ocell (Rd.cell hA (get_u8 hk))
  repeat (first | refine st ?_ | (refine sa ?_; intro _))
  refine VC_draw (S := fun w' => ∃ c : Unit, St w [] [] w') mixed (fun _ s => ⟨(), s⟩) ?_
  refine tkm 0 ?_
  refine tkm 1 ?_
  refine tkm 2 ?_
  refine tkm 3 ?_ (hS := by intro w1 h1; obtain ⟨c1, h1⟩ := h1; refine ⟨_, _, h1, ?_⟩; apply Y_load; exact rfl; exact rfl; intro w2 s2; exact hcell _ s2 (4 * n) (by omega))
  refine tkm 4 ?_
  refine tkm 5 ?_ (hS := by intro w1 h1; obtain ⟨c1, h1⟩ := h1; refine ⟨_, _, h1, ?_⟩; apply Y_bin; exact rfl; exact rfl; exact b32_shl (c' := 24) rfl (by decide))
  refine tkm 6 ?_
  refine tkm 7 ?_
  refine tkm 8 ?_
  refine tkm 9 ?_
  refine tkm 10 ?_ (hS := by intro w1 h1; obtain ⟨c1, h1⟩ := h1; refine ⟨_, _, h1, ?_⟩; apply Y_load; exact rfl; exact rfl; intro w2 s2; exact hcell _ s2 (4 * n + 1) (by omega))
  refine tkm 11 ?_
  refine tkm 12 ?_ (hS := by intro w1 h1; obtain ⟨c1, h1⟩ := h1; refine ⟨_, _, h1, ?_⟩; apply Y_bin; exact rfl; exact rfl; exact b32_shl (c' := 16) rfl (by decide))
  refine tkm 13 ?_
  refine tkm 14 ?_
  refine tkm 15 ?_
  refine tkm 16 ?_
  refine tkm 17 ?_
  refine tkm 18 ?_ (hS := by intro w1 h1; obtain ⟨c1, h1⟩ := h1; refine ⟨_, _, h1, ?_⟩; apply Y_load; exact rfl; exact rfl; intro w2 s2; exact hcell _ s2 (4 * n + 2) (by omega))
  refine tkm 19 ?_
  refine tkm 20 ?_ (hS := by intro w1 h1; obtain ⟨c1, h1⟩ := h1; refine ⟨_, _, h1, ?_⟩; apply Y_bin; exact rfl; exact rfl; exact b32_shl (c' := 8) rfl (by decide))
  refine tkm 21 ?_
  refine tkm 22 ?_
  refine tkm 23 ?_
  refine tkm 24 ?_
  refine tkm 25 ?_
  refine tkm 26 ?_ (hS := by intro w1 h1; obtain ⟨c1, h1⟩ := h1; refine ⟨_, _, h1, ?_⟩; apply Y_load; exact rfl; exact rfl; intro w2 s2; exact hcell _ s2 (4 * n + 3) (by omega))
  refine tkm 27 ?_
  refine tkm 28 ?_
  refine tkm 29 ?_
  refine VA_done (by kernel_rfl) ?_
  repeat (first | refine st ?_ | (refine sa ?_; intro _))
  exact VE_ret1 rfl rfl (fun w s => ⟨_, rfl, rfl, s⟩)
theorem refKeys (w : World) :
    Calls Tryd.prog 100 #[] w (Ret fun v w' => v = .agg (Kt.map u32).toArray ∧ St w [] [] w') := by
  refine enter (args := []) Tryd.func100 rfl rfl rfl ?_
  repeat (first | refine st ?_ | (refine sa ?_; intro _))
  refine VL_build (v := .agg (Kt.map u32).toArray) .none rfl (fun w => by kernel_rfl) rfl ?_
  apply VL_storeW (k := 0) (vs := Kt.map u32); exact .none; exact rfl; exact rfl; exact rfl; exact rfl; exact (by decide); exact rfl; exact rfl; exact NF.zero _
  repeat (first | refine st ?_ | (refine sa ?_; intro _))
  apply VE_retC (k := 0); exact rfl; infer_instance; exact rfl; exact rfl; exact rfl; exact rfl
  exact fun w s => ⟨_, rfl, rfl, s.drop⟩
theorem refBegin (w : World) :
    Calls Tryd.prog 87 #[] w (Ret fun v w' => v = I0.val ∧ St w [] [] w') := by
  refine enter (args := []) Tryd.func87 rfl rfl rfl ?_
  repeat (first | refine st ?_ | (refine sa ?_; intro _))
  refine VL_build (v := I0.val) .none rfl (fun w => by kernel_rfl) rfl ?_
  apply VL_storeW (k := 0) (vs := I0.cells); exact .none; exact rfl; exact rfl; exact rfl; exact rfl; exact rfl; exact rfl; exact rfl; exact NF.zero _
  repeat (first | refine st ?_ | (refine sa ?_; intro _))
  apply VE_retC (k := 0); exact rfl; infer_instance; exact rfl; exact rfl; exact rfl; exact rfl
  exact fun w s => ⟨_, rfl, rfl, s.drop⟩
theorem b32_add3 {x k w : UInt32} : binRes .add .u32 ((x + k).toNat : Int) .u32 (w.toNat : Int) = some (u32 (x + (k + w))) := by
  rw [← UInt32.add_assoc]; exact b32_add

set_option maxHeartbeats 60000000 in
theorem refRound (w : World) (A : Option Addr) (ca : Nat) (l : List UInt8) (sv : V8) (hl : l.length = 64) (hA : Rd w A (l.map u8)) :
    Calls Tryd.prog 88 #[sv.val, .slice A l.length ca, i64 0] w (Ret fun v w' => v = .agg ((compress Kt sv l).map u32).toArray ∧ St w [] [] w') := by
  refine enter (args := [_, _, _]) Tryd.func88 rfl rfl rfl ?_
  repeat (first | refine st ?_ | (refine sa ?_; intro _))
  rename_i sb ob tb
  refine VC_loop ⟨fun n : Nat => n ≤ 16, fun n => [(1, .slice A l.length ca), (2, i64 0), (3, .pointer (some ⟨sb, 0, none⟩)), (6, .pointer (some ⟨ob, 0, none⟩)), (7, .pointer (some ⟨tb, 0, none⟩)), (8, i64 (n : Int))], fun _ => [], fun n => [Blk sb sv.cells 116, Blk ob ((List.replicate 8 (0 : UInt32)).map u32) 116, Blk tb ((sF l n).map u32) 135]⟩ (fun n => 16 - n) 0 (by simp) ⟨rfl, rfl, rfl, rfl, rfl, rfl, trivial⟩ (fun _ s => s) ?_
  intro n hn
  dsimp only at hn ⊢
  by_cases h16 : n = 16
  · subst h16
    repeat (first | refine st ?_ | (refine sa ?_; intro _))
    refine VC_loop ⟨fun n : Nat => 16 ≤ n ∧ n ≤ 64, fun n => [(3, .pointer (some ⟨sb, 0, none⟩)), (6, .pointer (some ⟨ob, 0, none⟩)), (7, .pointer (some ⟨tb, 0, none⟩)), (9, i64 (n : Int))], fun _ => [], fun n => [Blk sb sv.cells 116, Blk ob ((List.replicate 8 (0 : UInt32)).map u32) 116, Blk tb ((sF l n).map u32) 135]⟩ (fun n => 64 - n) 16 (by simp) ⟨rfl, rfl, rfl, rfl, trivial⟩ (fun _ s => s) ?_
    rintro n ⟨hn1, hn2⟩
    dsimp only at hn1 hn2 ⊢
    by_cases h64 : n = 64
    · subst h64
      rw [sF_64]
      have hw64 := sched_length l 64
      obtain ⟨ws, hws⟩ : ∃ ws, ws = sched l 64 := ⟨_, rfl⟩
      have hcp : compress Kt sv l = adds sv.l (rnds Kt ws sv 64).l 8 := by rw [hws]; rfl
      rw [← hws] at hw64 ⊢
      rw [hcp]
      repeat (first | refine st ?_ | (refine sa ?_; intro _))
      apply VL_call; exact .none; exact rfl; exact rfl
      · intro w1 s; exact refKeys w1
      rintro w1 v w2 s ⟨rfl, t⟩
      refine ⟨_, _, s.comp t, ?_⟩
      have hk64 := Kt_length
      obtain ⟨ks, hks⟩ : ∃ ks, ks = Kt := ⟨_, rfl⟩
      rw [← hks] at hk64 ⊢
      repeat (first | refine st ?_ | (refine sa ?_; intro _))
      rename_i kb
      apply VL_storeW (k := 3) (vs := ks.map u32); exact .none; exact rfl; exact rfl; exact rfl; (simp [hk64]); exact all_u32 _; exact rfl; (simp [hk64]); exact NF.zero _
      repeat (first | refine st ?_ | (refine sa ?_; intro _))
      apply VL_loadW (k := 0); (first | exact .none | exact .yes rfl rfl); exact rfl; exact rfl; exact rfl; exact rfl; exact rfl
      repeat (first | refine st ?_ | (refine sa ?_; intro _))
      rename_i vb
      apply VL_storeW (k := 4) (vs := sv.cells); exact .none; exact rfl; exact rfl; exact rfl; exact rfl; exact rfl; exact rfl; exact rfl; exact NF.zero _
      repeat (first | refine st ?_ | (refine sa ?_; intro _))
      refine VC_loop ⟨fun n : Nat => n ≤ 64, fun n => [(3, .pointer (some ⟨sb, 0, none⟩)), (6, .pointer (some ⟨ob, 0, none⟩)), (7, .pointer (some ⟨tb, 0, none⟩)), (14, .pointer (some ⟨kb, 0, none⟩)), (15, .pointer (some ⟨vb, 0, none⟩)), (16, i64 (n : Int))], fun _ => [], fun n => [Blk sb sv.cells 116, Blk ob ((List.replicate 8 (0 : UInt32)).map u32) 116, Blk tb (ws.map u32) 135, Blk kb (ks.map u32) 135, Blk vb (rnds ks ws sv n).cells 116]⟩ (fun n => 64 - n) 0 (by simp) ⟨rfl, rfl, rfl, rfl, rfl, rfl, trivial⟩ (fun _ s => s) ?_
      intro n hn
      dsimp only at hn ⊢
      by_cases h64 : n = 64
      · subst h64
        obtain ⟨v, hvv⟩ : ∃ v, v = rnds ks ws sv 64 := ⟨_, rfl⟩
        rw [← hvv]
        repeat (first | refine st ?_ | (refine sa ?_; intro _))
        refine VC_loop ⟨fun n : Nat => n ≤ 8, fun n => [(3, .pointer (some ⟨sb, 0, none⟩)), (6, .pointer (some ⟨ob, 0, none⟩)), (15, .pointer (some ⟨vb, 0, none⟩)), (25, i64 (n : Int))], fun _ => [], fun n => [Blk sb ((adds sv.l v.l n).map u32) 116, Blk ob ((List.replicate 8 (0 : UInt32)).map u32) 116, Blk tb (ws.map u32) 135, Blk kb (ks.map u32) 135, Blk vb v.cells 116]⟩ (fun n => 8 - n) 0 (by simp) ⟨rfl, rfl, rfl, rfl, trivial⟩ (fun _ s => s) ?_
        intro n hn
        dsimp only at hn ⊢
        by_cases h8 : n = 8
        · subst h8
          have ha8 := adds_length sv.l v.l 8
          obtain ⟨ad, had⟩ : ∃ ad, ad = adds sv.l v.l 8 := ⟨_, rfl⟩
          rw [← had] at ha8 ⊢
          repeat (first | refine st ?_ | (refine sa ?_; intro _))
          apply VL_loadW (k := 0); exact .none; exact rfl; exact rfl; exact rfl; (simp [ha8]); exact rfl
          apply VL_storeW (k := 1) (vs := ad.map u32); exact .none; exact rfl; exact rfl; exact rfl; (simp [ha8]); exact all_u32 _; exact rfl; (simp [ha8]); exact NF.zero _
          repeat (first | refine st ?_ | (refine sa ?_; intro _))
          apply VE_retC (k := 1); exact rfl; infer_instance; exact rfl; exact rfl; exact rfl; (simp [ha8])
          exact fun w s => ⟨_, rfl, rfl, s.drop⟩
        have hn' : n < 8 := by omega
        repeat (first | refine st ?_ | (refine sa ?_; intro _))
        refine VC_draw (S := fun w' => ∃ c, St w [] [Blk sb c 116, Blk ob ((List.replicate 8 (0 : UInt32)).map u32) 116, Blk tb (ws.map u32) 135, Blk kb (ks.map u32) 135, Blk vb v.cells 116] w') mixed (fun _ s => ⟨_, s⟩) ?_
        refine tkm 0 ?_
        refine tkm 1 ?_
        refine tkm 2 ?_
        refine tkm 4 ?_
        refine tkm 5 ?_
        refine tkm 6 ?_ (hS := by intro w1 h1; obtain ⟨c1, h1⟩ := h1; refine ⟨_, _, h1, ?_⟩; apply Y_load; exact rfl; exact rfl; intro w2 s2; exact s2.cell (k := 4) rfl (by rw [Nat.zero_add]; exact get_u32 (l := v.l) (by simpa [V8.l] using hn')))
        apply VA_step 3; exact rfl; kernel_rfl
        apply VL_load; exact .none; exact rfl; exact rfl; exact fun w2 s2 => s2.cell (k := 0) rfl (by rw [Nat.zero_add]; exact get_u32 (by rw [adds_length]; exact hn')); exact rfl
        refine VL_nil (VA_back (fun w s => ⟨_, s⟩) ?_)
        refine tkm 7 ?_
        refine tkm 8 ?_
        apply VA_step 9; exact rfl; kernel_rfl
        apply VL_storeH1 (k := 0); exact .none; exact rfl; exact rfl; exact rfl; exact rfl; (simp [adds_length]; omega); exact NF.zero _
        refine VL_nil (VA_back (fun w s => ⟨_, s⟩) ?_)
        refine VA_done (by kernel_rfl) ?_
        repeat (first | refine st ?_ | (refine sa ?_; intro _))
        refine VE_fam (n + 1) (by (try dsimp only); omega) (by (try dsimp only); omega) ⟨rfl, rfl, rfl, rfl, trivial⟩ (fun w5 s5 => ?_)
        have e := adds_set sv.l v.l hn'
        dsimp only
        rw [← e, ← set_u32]
        simp only [Nat.zero_add, List.set_cons_zero] at s5
        exact s5
      have hn' : n < 64 := by omega
      obtain ⟨v, hvv⟩ : ∃ v, v = rnds ks ws sv n := ⟨_, rfl⟩
      have hst : rnds ks ws sv (n + 1) = v.step (ks.getD n 0 + ws.getD n 0) := by rw [hvv]; rfl
      rw [← hvv]
      repeat (first | refine st ?_ | (refine sa ?_; intro _))
      refine VC_draw (S := fun w' => ∃ c : Unit, St w [] [Blk sb sv.cells 116, Blk ob ((List.replicate 8 (0 : UInt32)).map u32) 116, Blk tb (ws.map u32) 135, Blk kb (ks.map u32) 135, Blk vb v.cells 116] w') mixed (fun _ s => ⟨(), s⟩) ?_
      refine tkm 0 ?_
      refine tkm 1 ?_ (hS := by intro w1 h1; obtain ⟨c1, h1⟩ := h1; refine ⟨_, _, h1, ?_⟩; apply Y_load; exact rfl; exact rfl; intro w2 s2; exact s2.cell (k := 4) rfl rfl)
      refine tkm 2 ?_
      refine tkm 3 ?_ (hS := by intro w1 h1; obtain ⟨c1, h1⟩ := h1; refine ⟨_, _, h1, ?_⟩; apply Y_load; exact rfl; exact rfl; intro w2 s2; exact s2.cell (k := 4) rfl rfl)
      refine tkm 4 ?_
      refine tkm 5 ?_ (hS := by intro w1 h1; obtain ⟨c1, h1⟩ := h1; refine ⟨_, _, h1, ?_⟩; apply Y_load; exact rfl; exact rfl; intro w2 s2; exact s2.cell (k := 4) rfl rfl)
      refine tkm 6 ?_
      refine tkm 7 ?_ (hS := by intro w1 h1; obtain ⟨c1, h1⟩ := h1; refine ⟨_, _, h1, ?_⟩; apply Y_load; exact rfl; exact rfl; intro w2 s2; exact s2.cell (k := 4) rfl rfl)
      refine tkm 8 ?_
      refine tkm 9 ?_ (hS := by intro w1 h1; obtain ⟨c1, h1⟩ := h1; refine ⟨_, _, h1, ?_⟩; apply Y_load; exact rfl; exact rfl; intro w2 s2; exact s2.cell (k := 4) rfl rfl)
      refine tkm 10 ?_
      refine tkm 11 ?_ (hS := by intro w1 h1; obtain ⟨c1, h1⟩ := h1; refine ⟨_, _, h1, ?_⟩; apply Y_load; exact rfl; exact rfl; intro w2 s2; exact s2.cell (k := 4) rfl rfl)
      refine tkm 12 ?_
      refine tkm 13 ?_
      refine tkm 14 ?_
      refine tkm 15 ?_
      refine tkm 16 ?_
      refine tkm 17 ?_
      refine VA_done (by kernel_rfl) ?_
      repeat (first | refine st ?_ | (refine sa ?_; intro _))
      refine VC_draw (S := fun w' => ∃ c : Unit, St w [] [Blk sb sv.cells 116, Blk ob ((List.replicate 8 (0 : UInt32)).map u32) 116, Blk tb (ws.map u32) 135, Blk kb (ks.map u32) 135, Blk vb v.cells 116] w') mixed (fun _ s => ⟨(), s⟩) ?_
      refine tkm 0 ?_
      refine tkm 1 ?_ (hS := by intro w1 h1; obtain ⟨c1, h1⟩ := h1; refine ⟨_, _, h1, ?_⟩; apply Y_load; exact rfl; exact rfl; intro w2 s2; exact s2.cell (k := 4) rfl rfl)
      refine tkm 2 ?_
      refine tkm 4 ?_
      refine tkm 7 ?_
      refine tkm 11 ?_
      refine tkm 12 ?_
      refine tkm 13 ?_
      refine tkm 14 ?_
      refine tkm (v := u32 (~~~ v.e)) 15 ?_ (hS := by intro w1 h1; obtain ⟨c1, h1⟩ := h1; refine ⟨_, _, h1, ?_⟩; apply Y_xor; exact rfl; exact b32_not _)
      refine tkm 16 ?_
      refine tkm 17 ?_
      refine tkm 18 ?_
      refine tkm 20 ?_
      refine tkm 21 ?_
      refine tkm 22 ?_ (hS := by intro w1 h1; obtain ⟨c1, h1⟩ := h1; refine ⟨_, _, h1, ?_⟩; apply Y_load; exact rfl; exact rfl; intro w2 s2; exact s2.cell (k := 3) rfl (by rw [Nat.zero_add]; exact get_u32 (by omega)))
      refine tkm 24 ?_
      refine tkm 25 ?_
      refine tkm 26 ?_ (hS := by intro w1 h1; obtain ⟨c1, h1⟩ := h1; refine ⟨_, _, h1, ?_⟩; apply Y_load; exact rfl; exact rfl; intro w2 s2; exact s2.cell (k := 2) rfl (by rw [Nat.zero_add]; exact get_u32 (by omega)))
      apply VA_step 3; exact rfl; kernel_rfl
      apply VL_call; exact .none; exact rfl; exact rfl
      · intro w1 s; exact rot w1 v.e 6 (by decide) (by decide)
      rintro w1 v w2 s ⟨rfl, t⟩
      refine ⟨_, _, s.comp t, ?_⟩
      refine VL_nil (VA_back (fun w s => ⟨(), s⟩) ?_)
      apply VA_step 5; exact rfl; kernel_rfl
      apply VL_call; exact .none; exact rfl; exact rfl
      · intro w1 s; exact rot w1 v.e 11 (by decide) (by decide)
      rintro w1 v w2 s ⟨rfl, t⟩
      refine ⟨_, _, s.comp t, ?_⟩
      refine VL_nil (VA_back (fun w s => ⟨(), s⟩) ?_)
      refine tkm 6 ?_
      apply VA_step 8; exact rfl; kernel_rfl
      apply VL_call; exact .none; exact rfl; exact rfl
      · intro w1 s; exact rot w1 v.e 25 (by decide) (by decide)
      rintro w1 v w2 s ⟨rfl, t⟩
      refine ⟨_, _, s.comp t, ?_⟩
      refine VL_nil (VA_back (fun w s => ⟨(), s⟩) ?_)
      refine tkm 9 ?_
      refine tkm 10 ?_
      refine tkm 19 ?_
      refine tkm 23 ?_
      refine tkm 27 ?_ (hS := by intro w1 h1; obtain ⟨c1, h1⟩ := h1; refine ⟨_, _, h1, ?_⟩; apply Y_bin; exact rfl; exact rfl; exact b32_add3)
      refine tkm 28 ?_
      refine VA_done (by kernel_rfl) ?_
      repeat (first | refine st ?_ | (refine sa ?_; intro _))
      apply VL_call; exact .none; exact rfl; exact rfl
      · intro w1 s; exact rot w1 v.a 2 (by decide) (by decide)
      rintro w1 v w2 s ⟨rfl, t⟩
      refine ⟨_, _, s.comp t, ?_⟩
      repeat (first | refine st ?_ | (refine sa ?_; intro _))
      apply VL_call; exact .none; exact rfl; exact rfl
      · intro w1 s; exact rot w1 v.a 13 (by decide) (by decide)
      rintro w1 v w2 s ⟨rfl, t⟩
      refine ⟨_, _, s.comp t, ?_⟩
      repeat (first | refine st ?_ | (refine sa ?_; intro _))
      apply VL_call; exact .none; exact rfl; exact rfl
      · intro w1 s; exact rot w1 v.a 22 (by decide) (by decide)
      rintro w1 v w2 s ⟨rfl, t⟩
      refine ⟨_, _, s.comp t, ?_⟩
      repeat (first | refine st ?_ | (refine sa ?_; intro _))
      refine VL_build (v := (v.step (ks.getD n 0 + ws.getD n 0)).val) .none rfl (fun w => by kernel_rfl) rfl ?_
      apply VL_storeW (k := 4) (vs := (v.step (ks.getD n 0 + ws.getD n 0)).cells); exact .none; exact rfl; exact rfl; exact rfl; exact rfl; exact rfl; exact rfl; exact rfl; exact NF.zero _
      repeat (first | refine st ?_ | (refine sa ?_; intro _))
      refine VE_fam (n + 1) (by (try dsimp only); omega) (by (try dsimp only); omega) ⟨rfl, rfl, rfl, rfl, rfl, rfl, trivial⟩ (fun w5 s5 => ?_)
      dsimp only
      rw [hst]
      exact s5
    have hn' : n < 64 := by omega
    have h15 : ∀ (r : List UInt32) (k : Nat), 0 < k → k ≤ 16 → ((sched l n ++ r).map u32)[0 + ((n : Int) - (k : Int)).toNat]? = some (u32 ((sched l n).getD (n - k) 0)) := by
      intro r k h1 h2
      rw [show 0 + ((n : Int) - (k : Int)).toNat = n - k by omega]
      exact sched_get l (by omega) r
    repeat (first | refine st ?_ | (refine sa ?_; intro _))
    apply VL_load; exact .none; exact rfl; exact rfl; exact fun w2 s2 => s2.cell (k := 2) rfl (h15 _ 15 (by omega) (by omega)); exact rfl
    repeat (first | refine st ?_ | (refine sa ?_; intro _))
    apply VL_load; exact .none; exact rfl; exact rfl; exact fun w2 s2 => s2.cell (k := 2) rfl (h15 _ 2 (by omega) (by omega)); exact rfl
    repeat (first | refine st ?_ | (refine sa ?_; intro _))
    apply VL_call; exact .none; exact rfl; exact rfl
    · intro w1 s; exact rot w1 ((sched l n).getD (n - 15) 0) 7 (by decide) (by decide)
    rintro w1 v w2 s ⟨rfl, t⟩
    refine ⟨_, _, s.comp t, ?_⟩
    repeat (first | refine st ?_ | (refine sa ?_; intro _))
    apply VL_call; exact .none; exact rfl; exact rfl
    · intro w1 s; exact rot w1 ((sched l n).getD (n - 15) 0) 18 (by decide) (by decide)
    rintro w1 v w2 s ⟨rfl, t⟩
    refine ⟨_, _, s.comp t, ?_⟩
    repeat (first | refine st ?_ | (refine sa ?_; intro _))
    apply VL_bin; exact .none; exact rfl; exact rfl; exact b32_shr (c' := 3) rfl (by decide); exact rfl
    repeat (first | refine st ?_ | (refine sa ?_; intro _))
    apply VL_call; exact .none; exact rfl; exact rfl
    · intro w1 s; exact rot w1 ((sched l n).getD (n - 2) 0) 17 (by decide) (by decide)
    rintro w1 v w2 s ⟨rfl, t⟩
    refine ⟨_, _, s.comp t, ?_⟩
    repeat (first | refine st ?_ | (refine sa ?_; intro _))
    apply VL_call; exact .none; exact rfl; exact rfl
    · intro w1 s; exact rot w1 ((sched l n).getD (n - 2) 0) 19 (by decide) (by decide)
    rintro w1 v w2 s ⟨rfl, t⟩
    refine ⟨_, _, s.comp t, ?_⟩
    repeat (first | refine st ?_ | (refine sa ?_; intro _))
    apply VL_bin; exact .none; exact rfl; exact rfl; exact b32_shr (c' := 10) rfl (by decide); exact rfl
    repeat (first | refine st ?_ | (refine sa ?_; intro _))
    refine VC_draw (S := fun w' => ∃ r, St w [] [Blk sb sv.cells 116, Blk ob ((List.replicate 8 (0 : UInt32)).map u32) 116, Blk tb ((sched l n ++ r).map u32) 135] w') mixed (fun _ s => ⟨_, s⟩) ?_
    refine tkm 0 ?_
    refine tkm 1 ?_
    refine tkm 2 ?_
    refine tkm 3 ?_
    refine tkm 4 ?_ (hS := by intro w1 h1; obtain ⟨c1, h1⟩ := h1; refine ⟨_, _, h1, ?_⟩; apply Y_load; exact rfl; exact rfl; intro w2 s2; exact s2.cell (k := 2) rfl (h15 _ 16 (by omega) (by omega)))
    refine tkm 5 ?_
    refine tkm 6 ?_
    refine tkm 7 ?_
    refine tkm 8 ?_
    refine tkm 9 ?_
    refine tkm 10 ?_ (hS := by intro w1 h1; obtain ⟨c1, h1⟩ := h1; refine ⟨_, _, h1, ?_⟩; apply Y_load; exact rfl; exact rfl; intro w2 s2; exact s2.cell (k := 2) rfl (h15 _ 7 (by omega) (by omega)))
    refine tkm 11 ?_
    refine tkm 12 ?_
    refine tkm 13 ?_
    refine tkm 14 ?_
    apply VA_step 15; exact rfl; kernel_rfl
    apply VL_storeH1 (k := 2); exact .none; exact rfl; exact rfl; exact rfl; exact rfl; (rw [List.length_map, sF_length l (by omega)]; omega); exact NF.zero _
    refine VL_nil (VA_back (fun w s => ?_) ?_)
    · simp only [Nat.zero_add, List.set_cons_zero, List.set_cons_succ] at s
      rw [sF_set' l hn'] at s
      exact ⟨_, s⟩
    refine VA_done (by kernel_rfl) ?_
    repeat (first | refine st ?_ | (refine sa ?_; intro _))
    refine VE_fam (n + 1) (by (try dsimp only); omega) (by (try dsimp only); omega) ⟨rfl, rfl, rfl, rfl, trivial⟩ (fun w5 s5 => ?_)
    have e := sF_set l (n := n) (by omega) (nxt (sched l n) n) (if_neg (by omega)).symm
    dsimp only
    rw [← e, ← set_u32]
    simp only [Nat.zero_add, List.set_cons_zero, List.set_cons_succ] at s5
    exact s5
  have hn' : n < 16 := by omega
  repeat (first | refine st ?_ | (refine sa ?_; intro _))
  apply VL_call; exact .none; exact rfl; exact rfl
  · intro w1 s; exact refWord w1 A ca l n _ (by omega) (by omega) (by omega) (s.rd hA)
  rintro w1 v w2 s ⟨rfl, t⟩
  refine ⟨_, _, s.comp t, ?_⟩
  repeat (first | refine st ?_ | (refine sa ?_; intro _))
  apply VL_storeH1 (k := 2); exact .none; exact rfl; exact rfl; exact rfl; exact rfl; (rw [List.length_map, sF_length l (by omega)]; omega); exact NF.zero _
  repeat (first | refine st ?_ | (refine sa ?_; intro _))
  refine VE_fam (n + 1) (by (try dsimp only); omega) (by (try dsimp only); omega) ⟨rfl, rfl, rfl, rfl, rfl, rfl, trivial⟩ (fun w5 s5 => ?_)
  have e := sF_set l (n := n) (by omega) (word l n) (if_pos hn').symm
  dsimp only
  rw [← e, ← set_u32]
  simp only [Nat.zero_add, List.set_cons_zero, List.set_cons_succ] at s5
  exact s5
end Go.Proofs.YtpboahlpgfglkaaDoor.X
