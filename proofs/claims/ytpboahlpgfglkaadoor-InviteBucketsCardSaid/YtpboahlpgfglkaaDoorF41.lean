/-
  SHA-256 of a block, the words: in plain words; the program's round.
-/
import Derived.Test.YtpboahlpgfglkaaDoorF40
import Derived.Test.YtpboahlpgfglkaaDoorX13
namespace Go.Proofs.YtpboahlpgfglkaaDoor.X
open Go Go.RowKit
set_option linter.unusedVariables false
set_option linter.unusedSimpArgs false
set_option maxRecDepth 100000

def W4 (a b c d : UInt8) : UInt32 := a.toUInt32 <<< UInt32.ofNat 24 ||| b.toUInt32 <<< UInt32.ofNat 16 ||| c.toUInt32 <<< UInt32.ofNat 8 ||| d.toUInt32
def word (l : List UInt8) (n : Nat) : UInt32 := W4 (l.getD (4 * n) 0) (l.getD (4 * n + 1) 0) (l.getD (4 * n + 2) 0) (l.getD (4 * n + 3) 0)
def sg0 (x : UInt32) : UInt32 := rotR x 7 ^^^ rotR x 18 ^^^ x >>> UInt32.ofNat 3
def sg1 (x : UInt32) : UInt32 := rotR x 17 ^^^ rotR x 19 ^^^ x >>> UInt32.ofNat 10
def nxt (s : List UInt32) (n : Nat) : UInt32 := s.getD (n - 16) 0 + sg0 (s.getD (n - 15) 0) + s.getD (n - 7) 0 + sg1 (s.getD (n - 2) 0)
def sched (l : List UInt8) : Nat → List UInt32
  | 0 => []
  | n + 1 => sched l n ++ [if n < 16 then word l n else nxt (sched l n) n]
theorem sched_length (l : List UInt8) : ∀ n, (sched l n).length = n
  | 0 => rfl
  | n + 1 => by rw [sched, List.length_append, sched_length l n]; rfl
def sF (l : List UInt8) (n : Nat) : List UInt32 := sched l n ++ List.replicate (64 - n) 0
theorem sF_length (l : List UInt8) {n : Nat} (h : n ≤ 64) : (sF l n).length = 64 := by rw [sF, List.length_append, sched_length, List.length_replicate]; omega
theorem set_u32 (l : List UInt32) (n : Nat) (x : UInt32) : (l.map u32).set n (u32 x) = (l.set n x).map u32 := by rw [List.map_set]
theorem get_u32 {l : List UInt32} {n : Nat} (h : n < l.length) : (l.map u32)[n]? = some (u32 (l.getD n 0)) := by
  rw [List.getElem?_map, List.getD_eq_getElem?_getD, List.getElem?_eq_getElem h]; rfl
theorem sF_set (l : List UInt8) {n : Nat} (h : n < 64) (x : UInt32) (hx : x = if n < 16 then word l n else nxt (sched l n) n) : (sF l n).set n x = sF l (n + 1) := by
  have e : List.replicate (64 - n) (0 : UInt32) = 0 :: List.replicate (64 - (n + 1)) 0 := by rw [show 64 - n = (64 - (n + 1)) + 1 by omega, List.replicate_succ]
  unfold sF
  rw [List.set_append_right _ _ (by rw [sched_length]; exact Nat.le_refl _), sched_length, Nat.sub_self, e, sched, List.set_cons_zero, hx, List.append_assoc]
  rfl
theorem sF_get (l : List UInt8) {n i : Nat} (h : i < n) (hn : n ≤ 64) : ((sF l n).map u32)[i]? = some (u32 ((sched l n).getD i 0)) := by
  rw [get_u32 (by rw [sF_length l hn]; omega), sF, List.getD_eq_getElem?_getD, List.getElem?_append_left (by rw [sched_length]; exact h), ← List.getD_eq_getElem?_getD]
theorem sched_get (l : List UInt8) {n i : Nat} (h : i < n) (r : List UInt32) : ((sched l n ++ r).map u32)[i]? = some (u32 ((sched l n).getD i 0)) := by
  rw [get_u32 (by rw [List.length_append, sched_length]; omega), List.getD_eq_getElem?_getD, List.getElem?_append_left (by rw [sched_length]; exact h), ← List.getD_eq_getElem?_getD]
theorem sF_set' (l : List UInt8) {n : Nat} (h : n < 64) (x : UInt32) : ((sF l n).map u32).set n (u32 x) = (sched l n ++ x :: List.replicate (64 - (n + 1)) 0).map u32 := by
  have e : List.replicate (64 - n) (0 : UInt32) = 0 :: List.replicate (64 - (n + 1)) 0 := by rw [show 64 - n = (64 - (n + 1)) + 1 by omega, List.replicate_succ]
  rw [set_u32]
  unfold sF
  rw [List.set_append_right _ _ (by rw [sched_length]; exact Nat.le_refl _), sched_length, Nat.sub_self, e, List.set_cons_zero]
theorem sF_64 (l : List UInt8) : sF l 64 = sched l 64 := by simp [sF]

/-- the hash's cells: the state, the block, what is used of it, what was written -/
def hv (sl : List UInt32) (bl : List UInt8) (used : Int) (size : UInt64) : List Value := sl.map u32 ++ (bl.map u8 ++ [i64 used, u64 size])
abbrev hobj (sl : List UInt32) (bl : List UInt8) (used : Int) (size : UInt64) : Obj := .cells (hv sl bl used size).toArray 132 (0, 0)
theorem hv_b {sl : List UInt32} {bl : List UInt8} {used : Int} {size : UInt64} {k : Nat} (hs : sl.length = 8) (hk : k < bl.length) : (hv sl bl used size)[0 + 8 + k]? = some (u8 (bl.getD k 0)) := by
  unfold hv
  rw [List.getElem?_append_right (by simp [hs]), List.length_map, hs, show 0 + 8 + k - 8 = k by omega, List.getElem?_append_left (by simpa using hk), List.getElem?_map, List.getD_eq_getElem?_getD, List.getElem?_eq_getElem hk]
  rfl
theorem hv_s {sl : List UInt32} {bl : List UInt8} {used : Int} {size : UInt64} {k : Nat} (hs : sl.length = 8) (hk : k < 8) : (hv sl bl used size)[0 + 0 + k]? = some (u32 (sl.getD k 0)) := by
  unfold hv
  rw [List.getElem?_append_left (by simp [hs]; omega), Nat.add_zero, Nat.zero_add, get_u32 (by omega)]
theorem hv_set {sl : List UInt32} {bl : List UInt8} {used : Int} {size : UInt64} {k : Nat} (hs : sl.length = 8) (hk : k < 8) (x : UInt32) : (hv sl bl used size).set (0 + 0 + k) (u32 x) = hv (sl.set k x) bl used size := by
  unfold hv
  rw [List.set_append_left _ _ (by simp [hs]; omega), Nat.add_zero, Nat.zero_add, set_u32]
theorem hv_at (s : V8) (bl : List UInt8) (used : Int) (size : UInt64) : ∀ j v, s.cells[j]? = some v → (hv s.l bl used size)[0 + 0 + j]? = some v := by
  intro j v hj
  have h1 : j < 8 := by
    rcases Nat.lt_or_ge j 8 with h | h
    · exact h
    · rw [List.getElem?_eq_none (by simpa [V8.cells] using h)] at hj; simp at hj
  rw [hv, List.getElem?_append_left (by simp [V8.l]; omega), Nat.add_zero, Nat.zero_add]
  exact hj
def rnds (ks ws : List UInt32) (v : V8) : Nat → V8
  | 0 => v
  | n + 1 => (rnds ks ws v n).step (ks.getD n 0 + ws.getD n 0)
/-- the state when the first n of its words have been added -/
def adds (s v : List UInt32) (n : Nat) : List UInt32 := (List.range 8).map fun i => if i < n then s.getD i 0 + v.getD i 0 else s.getD i 0
theorem adds_length (s v : List UInt32) (n : Nat) : (adds s v n).length = 8 := by simp [adds]
theorem adds_zero (s : V8) (v : List UInt32) : adds s.l v 0 = s.l := rfl
theorem adds_set (s v : List UInt32) {n : Nat} (h : n < 8) : (adds s v n).set n ((adds s v n).getD n 0 + v.getD n 0) = adds s v (n + 1) := by
  rcases n with _ | _ | _ | _ | _ | _ | _ | _ | n <;> first | rfl | omega
def compress (ks : List UInt32) (s : V8) (bl : List UInt8) : List UInt32 := adds s.l (rnds ks (sched bl 64) s 64).l 8

set_option maxHeartbeats 60000000 in
theorem round (w : World) (hb : Nat) (sv : V8) (bl : List UInt8) (used : Int) (size : UInt64) (ks : List UInt32) (hks : ks.length = 64) (hb0 : w.heap[hb]? = some (hobj sv.l bl used size)) (hbl : bl.length = 64) (hT : At w 2 0 (ks.map u32)) (hne : 2 ≠ hb) :
    Calls Tryd.prog 96 #[.pointer (some ⟨hb, 0, none⟩)] w (Ret fun v w' => v = .tuple #[] ∧ St w [(hb, hobj (compress ks sv bl) bl used size)] [] w') := by
  refine enterM (args := [_]) (M := [(hb, hobj sv.l bl used size)]) Tryd.func96 rfl rfl rfl (St.one hb0) ?_
  repeat (first | refine st ?_ | (refine sa ?_; intro _))
  rename_i tb
  refine VC_loop ⟨fun n : Nat => n ≤ 16, fun n => [(0, .pointer (some ⟨hb, 0, none⟩)), (2, .pointer (some ⟨tb, 0, none⟩)), (12, i64 (n : Int))], fun _ => [(hb, hobj sv.l bl used size)], fun n => [Blk tb ((sF bl n).map u32) 135]⟩ (fun n => 16 - n) 0 (by simp) ⟨rfl, rfl, rfl, trivial⟩ (fun _ s => s) ?_
  intro n hn
  dsimp only at hn ⊢
  by_cases h16 : n = 16
  · subst h16
    repeat (first | refine st ?_ | (refine sa ?_; intro _))
    refine VC_loop ⟨fun n : Nat => 16 ≤ n ∧ n ≤ 64, fun n => [(0, .pointer (some ⟨hb, 0, none⟩)), (2, .pointer (some ⟨tb, 0, none⟩)), (4, i64 (n : Int))], fun _ => [(hb, hobj sv.l bl used size)], fun n => [Blk tb ((sF bl n).map u32) 135]⟩ (fun n => 64 - n) 16 (by simp) ⟨rfl, rfl, rfl, trivial⟩ (fun _ s => s) ?_
    rintro n ⟨hn1, hn2⟩
    dsimp only at hn1 hn2 ⊢
    by_cases h64 : n = 64
    · subst h64
      rw [sF_64]
      have hw64 := sched_length bl 64
      obtain ⟨ws, hws⟩ : ∃ ws, ws = sched bl 64 := ⟨_, rfl⟩
      have hcp : compress ks sv bl = adds sv.l (rnds ks ws sv 64).l 8 := by rw [hws]; rfl
      rw [← hws] at hw64 ⊢
      rw [hcp]
      repeat (first | refine st ?_ | (refine sa ?_; intro _))
      apply VL_loadA (cs := sv.cells); exact .none; exact rfl; exact rfl; exact rfl; exact fun w s1 => s1.atM (k := 0) rfl (hv_at sv bl used size); exact rfl
      repeat (first | refine st ?_ | (refine sa ?_; intro _))
      rename_i vb
      apply VL_storeW (k := 1) (vs := sv.cells); exact .none; exact rfl; exact rfl; exact rfl; exact rfl; exact rfl; exact rfl; exact rfl; exact NF.zero _
      repeat (first | refine st ?_ | (refine sa ?_; intro _))
      refine VC_loop ⟨fun n : Nat => n ≤ 64, fun n => [(0, .pointer (some ⟨hb, 0, none⟩)), (2, .pointer (some ⟨tb, 0, none⟩)), (9, .pointer (some ⟨vb, 0, none⟩)), (106, i64 (n : Int))], fun _ => [(hb, hobj sv.l bl used size)], fun n => [Blk tb (ws.map u32) 135, Blk vb (rnds ks ws sv n).cells 116]⟩ (fun n => 64 - n) 0 (by simp) ⟨rfl, rfl, rfl, rfl, trivial⟩ (fun _ s => s) ?_
      intro n hn
      dsimp only at hn ⊢
      by_cases h64 : n = 64
      · subst h64
        obtain ⟨v, hvv⟩ : ∃ v, v = rnds ks ws sv 64 := ⟨_, rfl⟩
        rw [← hvv]
        repeat (first | refine st ?_ | (refine sa ?_; intro _))
        refine VC_loop ⟨fun n : Nat => n ≤ 8, fun n => [(0, .pointer (some ⟨hb, 0, none⟩)), (9, .pointer (some ⟨vb, 0, none⟩)), (119, i64 (n : Int))], fun n => [(hb, hobj (adds sv.l v.l n) bl used size)], fun _ => [Blk tb (ws.map u32) 135, Blk vb v.cells 116]⟩ (fun n => 8 - n) 0 (by simp) ⟨rfl, rfl, rfl, trivial⟩ (fun _ s => s) ?_
        intro n hn
        dsimp only at hn ⊢
        by_cases h8 : n = 8
        · subst h8
          repeat (first | refine st ?_ | (refine sa ?_; intro _))
          exact VE_end0 rfl (fun w s => ⟨_, rfl, rfl, s.drop⟩)
        have hn' : n < 8 := by omega
        repeat (first | refine st ?_ | (refine sa ?_; intro _))
        refine VC_draw (S := fun w' => ∃ c, St w [(hb, c)] [Blk tb (ws.map u32) 135, Blk vb v.cells 116] w') mixed (fun _ s => ⟨_, s⟩) ?_
        refine tkm 0 ?_
        refine tkm 1 ?_
        refine tkm 2 ?_
        refine tkm 3 ?_
        refine tkm 4 ?_
        refine tkm 6 ?_
        refine tkm 7 ?_
        refine tkm 8 ?_ (hS := by intro w1 h1; obtain ⟨c1, h1⟩ := h1; refine ⟨_, _, h1, ?_⟩; apply Y_load; exact rfl; exact rfl; intro w2 s2; exact s2.cell (k := 1) rfl (by rw [Nat.zero_add]; exact get_u32 (l := v.l) (by simpa [V8.l] using hn')))
        refine tkm 10 ?_
        refine tkm 11 ?_
        apply VA_step 5; exact rfl; kernel_rfl
        apply VL_load; exact .none; exact rfl; exact rfl; exact fun w2 s2 => s2.mcell (k := 0) rfl (hv_s (adds_length _ _ _) hn'); exact rfl
        refine VL_nil (VA_back (fun w s => ⟨_, s⟩) ?_)
        refine tkm 9 ?_
        refine tkm 12 ?_
        apply VA_step 13; exact rfl; kernel_rfl
        apply VL_storeM1 (k := 0); exact .none; exact rfl; exact rfl; exact rfl; exact rfl; (simp [hv, adds_length]; omega); exact NF.zero _
        refine VL_nil (VA_back (fun w s => ⟨_, s⟩) ?_)
        refine VA_done (by kernel_rfl) ?_
        repeat (first | refine st ?_ | (refine sa ?_; intro _))
        refine VE_fam (n + 1) (by (try dsimp only); omega) (by (try dsimp only); omega) ⟨rfl, rfl, rfl, trivial⟩ (fun w5 s5 => ?_)
        have e : (hv (adds sv.l v.l n) bl used size).set (0 + 0 + n) (u32 ((adds sv.l v.l n).getD n 0 + v.l.getD n 0)) = hv (adds sv.l v.l (n + 1)) bl used size := by
          rw [hv_set (adds_length _ _ _) hn', adds_set _ _ hn']
        dsimp only
        unfold hobj
        rw [← e]
        exact s5
      have hn' : n < 64 := by omega
      repeat (first | refine st ?_ | (refine sa ?_; intro _))
      refine VC_draw (S := fun w' => ∃ c, St w [(hb, hobj sv.l bl used size)] [Blk tb (ws.map u32) 135, Blk vb c 116] w') mixed (fun _ s => ⟨_, s⟩) ?_
      refine tkm 1 ?_
      refine tkm 2 ?_
      refine tkm 3 ?_ (hS := by intro w1 h1; obtain ⟨c1, h1⟩ := h1; refine ⟨_, _, h1, ?_⟩; apply Y_load; exact rfl; exact rfl; intro w2 s2; exact s2.oldcell (hT n _ (get_u32 (by omega))) (by simpa using hne))
      refine tkm 4 ?_
      refine tkm 5 ?_
      refine tkm 6 ?_ (hS := by intro w1 h1; obtain ⟨c1, h1⟩ := h1; refine ⟨_, _, h1, ?_⟩; apply Y_load; exact rfl; exact rfl; intro w2 s2; exact s2.cell (k := 0) rfl (by rw [Nat.zero_add]; exact get_u32 (by omega)))
      refine tkm 7 ?_
      apply VA_step 0; exact rfl; kernel_rfl
      apply VL_loadW (k := 1); exact .none; exact rfl; exact rfl; exact rfl; exact rfl; exact rfl
      refine VL_nil (VA_back (fun w s => ⟨_, s⟩) ?_)
      apply VA_step 8; exact rfl; kernel_rfl
      apply VL_call; exact .none; exact rfl; exact rfl
      · intro w1 s; exact step w1 (rnds ks ws sv n) (ks.getD n 0 + ws.getD n 0)
      rintro w1 v w2 s ⟨rfl, t⟩
      refine ⟨_, _, s.comp t, ?_⟩
      refine VL_nil (VA_back (fun w s => ⟨_, s⟩) ?_)
      apply VA_step 9; exact rfl; kernel_rfl
      apply VL_storeW (k := 1) (vs := (rnds ks ws sv (n + 1)).cells); exact .none; exact rfl; exact rfl; exact rfl; exact rfl; exact rfl; exact rfl; exact rfl; exact NF.zero _
      refine VL_nil (VA_back (fun w s => ⟨_, s⟩) ?_)
      refine VA_done (by kernel_rfl) ?_
      repeat (first | refine st ?_ | (refine sa ?_; intro _))
      refine VE_fam (n + 1) (by (try dsimp only); omega) (by (try dsimp only); omega) ⟨rfl, rfl, rfl, rfl, trivial⟩ (fun w5 s5 => s5)
    have hn' : n < 64 := by omega
    have h15 : ∀ (r : List UInt32) (k : Nat), 0 < k → k ≤ 16 → ((sched bl n ++ r).map u32)[0 + ((n : Int) - (k : Int)).toNat]? = some (u32 ((sched bl n).getD (n - k) 0)) := by
      intro r k h1 h2
      rw [show 0 + ((n : Int) - (k : Int)).toNat = n - k by omega]
      exact sched_get bl (by omega) r
    repeat (first | refine st ?_ | (refine sa ?_; intro _))
    refine VC_draw (S := fun w' => ∃ c : Unit, St w [(hb, hobj sv.l bl used size)] [Blk tb ((sF bl n).map u32) 135] w') mixed (fun _ s => ⟨(), s⟩) ?_
    refine tkm 0 ?_
    refine tkm 1 ?_
    refine tkm 2 ?_
    refine tkm 3 ?_ (hS := by intro w1 h1; obtain ⟨c1, h1⟩ := h1; refine ⟨_, _, h1, ?_⟩; apply Y_load; exact rfl; exact rfl; intro w2 s2; exact s2.cell (k := 0) rfl (h15 _ 15 (by omega) (by omega)))
    refine tkm 4 ?_
    refine tkm 5 ?_
    refine tkm 6 ?_
    refine tkm 7 ?_ (hS := by intro w1 h1; obtain ⟨c1, h1⟩ := h1; refine ⟨_, _, h1, ?_⟩; apply Y_load; exact rfl; exact rfl; intro w2 s2; exact s2.cell (k := 0) rfl (h15 _ 2 (by omega) (by omega)))
    refine tkm 8 ?_
    refine tkm 9 ?_
    refine VA_done (by kernel_rfl) ?_
    repeat (first | refine st ?_ | (refine sa ?_; intro _))
    apply VL_call; exact .none; exact rfl; exact rfl
    · intro w1 s; exact rotL w1 ((sched bl n).getD (n - 15) 0) 7 (by decide) (by decide)
    rintro w1 v w2 s ⟨rfl, t⟩
    refine ⟨_, _, s.comp t, ?_⟩
    repeat (first | refine st ?_ | (refine sa ?_; intro _))
    apply VL_call; exact .none; exact rfl; exact rfl
    · intro w1 s; exact rotL w1 ((sched bl n).getD (n - 15) 0) 18 (by decide) (by decide)
    rintro w1 v w2 s ⟨rfl, t⟩
    refine ⟨_, _, s.comp t, ?_⟩
    repeat (first | refine st ?_ | (refine sa ?_; intro _))
    apply VL_bin; exact .none; exact rfl; exact rfl; exact b32_shr (c' := 3) rfl (by decide); exact rfl
    repeat (first | refine st ?_ | (refine sa ?_; intro _))
    apply VL_call; exact .none; exact rfl; exact rfl
    · intro w1 s; exact rotL w1 ((sched bl n).getD (n - 2) 0) 17 (by decide) (by decide)
    rintro w1 v w2 s ⟨rfl, t⟩
    refine ⟨_, _, s.comp t, ?_⟩
    repeat (first | refine st ?_ | (refine sa ?_; intro _))
    apply VL_call; exact .none; exact rfl; exact rfl
    · intro w1 s; exact rotL w1 ((sched bl n).getD (n - 2) 0) 19 (by decide) (by decide)
    rintro w1 v w2 s ⟨rfl, t⟩
    refine ⟨_, _, s.comp t, ?_⟩
    repeat (first | refine st ?_ | (refine sa ?_; intro _))
    apply VL_bin; exact .none; exact rfl; exact rfl; exact b32_shr (c' := 10) rfl (by decide); exact rfl
    repeat (first | refine st ?_ | (refine sa ?_; intro _))
    refine VC_draw (S := fun w' => ∃ r, St w [(hb, hobj sv.l bl used size)] [Blk tb ((sched bl n ++ r).map u32) 135] w') mixed (fun _ s => ⟨_, s⟩) ?_
    refine tkm 0 ?_
    refine tkm 1 ?_
    refine tkm 2 ?_
    refine tkm 3 ?_
    refine tkm 4 ?_ (hS := by intro w1 h1; obtain ⟨c1, h1⟩ := h1; refine ⟨_, _, h1, ?_⟩; apply Y_load; exact rfl; exact rfl; intro w2 s2; exact s2.cell (k := 0) rfl (h15 _ 16 (by omega) (by omega)))
    refine tkm 5 ?_
    refine tkm 6 ?_
    refine tkm 7 ?_
    refine tkm 8 ?_
    refine tkm 9 ?_
    refine tkm 10 ?_ (hS := by intro w1 h1; obtain ⟨c1, h1⟩ := h1; refine ⟨_, _, h1, ?_⟩; apply Y_load; exact rfl; exact rfl; intro w2 s2; exact s2.cell (k := 0) rfl (h15 _ 7 (by omega) (by omega)))
    refine tkm 11 ?_
    refine tkm 12 ?_
    refine tkm 13 ?_
    refine tkm 14 ?_
    apply VA_step 15; exact rfl; kernel_rfl
    apply VL_storeH1 (k := 0); exact .none; exact rfl; exact rfl; exact rfl; exact rfl; (rw [List.length_map, sF_length bl (by omega)]; omega); exact NF.zero _
    refine VL_nil (VA_back (fun w s => ?_) ?_)
    · simp only [Nat.zero_add, List.set_cons_zero] at s
      rw [sF_set' bl hn'] at s
      exact ⟨_, s⟩
    refine VA_done (by kernel_rfl) ?_
    repeat (first | refine st ?_ | (refine sa ?_; intro _))
    refine VE_fam (n + 1) (by (try dsimp only); omega) (by (try dsimp only); omega) ⟨rfl, rfl, rfl, trivial⟩ (fun w5 s5 => ?_)
    have e := sF_set bl (n := n) (by omega) (nxt (sched bl n) n) (if_neg (by omega)).symm
    dsimp only
    rw [← e, ← set_u32]
    simp only [Nat.zero_add, List.set_cons_zero] at s5
    exact s5
  have hn' : n < 16 := by omega
  repeat (first | refine st ?_ | (refine sa ?_; intro _))
  refine VC_draw (S := fun w' => ∃ c, St w [(hb, hobj sv.l bl used size)] [Blk tb c 135] w') mixed (fun _ s => ⟨_, s⟩) ?_
  refine tkm 0 ?_
  refine tkm 1 ?_
  refine tkm 2 ?_
  refine tkm 3 ?_
  refine tkm 4 ?_
  refine tkm 5 ?_
  refine tkm 6 ?_
  refine tkm 7 ?_ (hS := by intro w1 h1; obtain ⟨c1, h1⟩ := h1; refine ⟨_, _, h1, ?_⟩; apply Y_load; exact rfl; exact rfl; intro w2 s2; exact s2.mcell (k := 0) rfl (hv_b (k := 4 * n) rfl (by omega)))
  refine tkm 8 ?_
  refine tkm 9 ?_ (hS := by intro w1 h1; obtain ⟨c1, h1⟩ := h1; refine ⟨_, _, h1, ?_⟩; apply Y_bin; exact rfl; exact rfl; exact b32_shl (c' := 24) rfl (by decide))
  refine tkm 10 ?_
  refine tkm 11 ?_
  refine tkm 12 ?_
  refine tkm 13 ?_
  refine tkm 14 ?_
  refine tkm 15 ?_
  refine tkm 16 ?_
  refine tkm 17 ?_ (hS := by intro w1 h1; obtain ⟨c1, h1⟩ := h1; refine ⟨_, _, h1, ?_⟩; apply Y_load; exact rfl; exact rfl; intro w2 s2; exact s2.mcell (k := 0) rfl (hv_b (k := 4 * n + 1) rfl (by omega)))
  refine tkm 18 ?_
  refine tkm 19 ?_ (hS := by intro w1 h1; obtain ⟨c1, h1⟩ := h1; refine ⟨_, _, h1, ?_⟩; apply Y_bin; exact rfl; exact rfl; exact b32_shl (c' := 16) rfl (by decide))
  refine tkm 20 ?_
  refine tkm 21 ?_
  refine tkm 22 ?_
  refine tkm 23 ?_
  refine tkm 24 ?_
  refine tkm 25 ?_
  refine tkm 26 ?_
  refine tkm 27 ?_
  refine tkm 28 ?_ (hS := by intro w1 h1; obtain ⟨c1, h1⟩ := h1; refine ⟨_, _, h1, ?_⟩; apply Y_load; exact rfl; exact rfl; intro w2 s2; exact s2.mcell (k := 0) rfl (hv_b (k := 4 * n + 2) rfl (by omega)))
  refine tkm 29 ?_
  refine tkm 30 ?_ (hS := by intro w1 h1; obtain ⟨c1, h1⟩ := h1; refine ⟨_, _, h1, ?_⟩; apply Y_bin; exact rfl; exact rfl; exact b32_shl (c' := 8) rfl (by decide))
  refine tkm 31 ?_
  refine tkm 32 ?_
  refine tkm 33 ?_
  refine tkm 34 ?_
  refine tkm 35 ?_
  refine tkm 36 ?_
  refine tkm 37 ?_
  refine tkm 38 ?_
  refine tkm 39 ?_ (hS := by intro w1 h1; obtain ⟨c1, h1⟩ := h1; refine ⟨_, _, h1, ?_⟩; apply Y_load; exact rfl; exact rfl; intro w2 s2; exact s2.mcell (k := 0) rfl (hv_b (k := 4 * n + 3) rfl (by omega)))
  refine tkm 40 ?_
  refine tkm 41 ?_
  refine tkm 42 ?_
  apply VA_step 43; exact rfl; kernel_rfl
  apply VL_storeH1 (k := 0); exact .none; exact rfl; exact rfl; exact rfl; exact rfl; (rw [List.length_map, sF_length bl (by omega)]; omega); exact NF.zero _
  refine VL_nil (VA_back (fun w s => ⟨_, s⟩) ?_)
  refine VA_done (by kernel_rfl) ?_
  repeat (first | refine st ?_ | (refine sa ?_; intro _))
  refine VE_fam (n + 1) (by (try dsimp only); omega) (by (try dsimp only); omega) ⟨rfl, rfl, rfl, trivial⟩ (fun w5 s5 => ?_)
  have e := sF_set bl (n := n) (by omega) (word bl n) (if_pos hn').symm
  dsimp only
  rw [← e, ← set_u32]
  simp only [Nat.zero_add, List.set_cons_zero] at s5
  exact s5
end Go.Proofs.YtpboahlpgfglkaaDoor.X
