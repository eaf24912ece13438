/-
  Contracts: bytes brought to a length; lists of lists compared and copied; frames laid.
-/
import Derived.Test.YtpboahlpgfglkaaDoorF22
namespace Go.Proofs.YtpboahlpgfglkaaDoor.X
open Go Go.RowKit
set_option linter.unusedVariables false
set_option linter.unusedSimpArgs false
set_option maxRecDepth 100000

def sizedTo (l : List UInt8) (n : Nat) : List UInt8 := l.take n ++ List.replicate (n - l.length) 0
theorem sizedTo_length (l : List UInt8) (n : Nat) : (sizedTo l n).length = n := by simp [sizedTo]; omega
theorem sizedTo_get (l : List UInt8) (n k : Nat) (hn : k < n) (hl : k < l.length) : (sizedTo l n).getD k 0 = l.getD k 0 := by
  simp [sizedTo, List.getD, List.getElem?_append, hl, hn, List.getElem?_take]
  rw [if_pos (by omega)]; rfl
theorem sizedTo_done (l : List UInt8) (n k : Nat) (hk : k ≤ n) (hl : k ≤ l.length) (h : k = n ∨ k = l.length) : (sizedTo l n).take k ++ List.replicate (n - k) 0 = sizedTo l n := by
  rcases h with rfl | rfl
  · rw [List.take_of_length_le (by rw [sizedTo_length]; omega)]; simp
  · have e : l.take n = l := List.take_of_length_le hk
    simp [sizedTo, e]
theorem sizedTo_self (l : List UInt8) : sizedTo l l.length = l := by simp [sizedTo]

set_option maxHeartbeats 1000000 in
theorem sized (w : World) (A : Option Addr) (ca : Nat) (l : List UInt8) (n : Nat) (hA : Rd w A (l.map u8)) (hn : n ≤ 1000) (hl : l.length ≤ 140737488355328) :
    Calls Tryd.prog 54 #[.slice A l.length ca, i64 (n : Int)] w (Ret fun v w' => ∃ b, v = .slice (some ⟨b, 0, none⟩) n n ∧ St w [] [Blk b ((sizedTo l n).map u8) 5] w') := by
  refine enter (args := [_, _]) Tryd.func54 rfl rfl rfl ?_
  repeat (first | refine st ?_ | (refine sa ?_; intro _))
  refine VL_makeBlk .none rfl rfl rfl (l' := n) (c' := n) rfl rfl (by omega) (by omega) (by omega) rfl (fun b => ?_)
  repeat (first | refine st ?_ | (refine sa ?_; intro _))
  have hT := sizedTo_length l n
  refine VC_loop ⟨fun k : Nat => k ≤ n ∧ k ≤ l.length, fun k => [(0, .slice A l.length ca), (1, i64 (n : Int)), (5, .slice (some ⟨b, 0, none⟩) n n), (6, i64 (k : Int))], fun _ => [], fun k => [Blk b (((sizedTo l n).take k ++ List.replicate (n - k) 0).map u8) 5]⟩ (fun k => n - k) 0 (by simp) ⟨rfl, rfl, rfl, rfl, trivial⟩ (fun _ s => by simpa using s) ?_
  rintro k ⟨hk, hkl⟩
  dsimp only at hk hkl ⊢
  have hlen : (((sizedTo l n).take k ++ List.replicate (n - k) (0 : UInt8)).map u8).length = n := by simp; omega
  by_cases h1 : k < n
  · by_cases h2 : k < l.length
    · repeat (first | refine st ?_ | (refine sa ?_; intro _))
      refine VL_storeB (p := 0) .none rfl rfl rfl rfl (by rw [hlen]; omega) (NF.zero _) ?_
      repeat (first | refine st ?_ | (refine sa ?_; intro _))
      refine VE_fam (k + 1) ⟨by omega, by omega⟩ (by (try dsimp only); omega) ⟨rfl, rfl, rfl, rfl, trivial⟩ (fun _ s => ?_)
      have s' : St w [] [Blk b ((((sizedTo l n).take k ++ List.replicate (n - k) 0).map u8).set k (u8 (l.getD k 0))) 5] _ := s
      rw [← List.map_set, ← sizedTo_get l n k h1 h2, fill_step _ k n (by omega) hT] at s'
      exact s'
    · rw [sizedTo_done l n k hk hkl (.inr (by omega))]
      repeat (first | refine st ?_ | (refine sa ?_; intro _))
      exact VE_ret1 rfl rfl (fun w s => ⟨_, rfl, b, rfl, s⟩)
  · rw [sizedTo_done l n k hk hkl (.inl (by omega))]
    repeat (first | refine st ?_ | (refine sa ?_; intro _))
    exact VE_ret1 rfl rfl (fun w s => ⟨_, rfl, b, rfl, s⟩)

/-! ### lists of lists -/
theorem eqRows (w : World) (A B : Option Addr) (ca cb : Nat) (ra rb : List Row) (hA : RdRows w A ra) (hB : RdRows w B rb) (hn : ra.length ≤ 140737488355328) (hl : ∀ r ∈ ra, r.l.length ≤ 4611686018427387904) :
    Calls Tryd.prog 33 #[.slice A ra.length ca, .slice B rb.length cb] w (Ret fun v w' => v = .bool (decide (ra.map Row.l = rb.map Row.l)) ∧ St w [] [] w') := by
  have hA1 := hA.rd
  have hB1 := hB.rd
  refine enter (args := [_, _]) Tryd.func33 rfl rfl rfl ?_
  repeat (first | refine st ?_ | (refine sa ?_; intro _))
  refine VC_cond_d rfl (fun h => ?_) (fun h => ?_)
  · repeat (first | refine st ?_ | (refine sa ?_; intro _))
    refine VE_ret1 rfl rfl (fun w s => ⟨_, rfl, ?_, s⟩)
    rw [decide_eq_false (fun e => h (by have := congrArg List.length e; simp at this; omega))]
  have hlen : ra.length = rb.length := by omega
  repeat (first | refine st ?_ | (refine sa ?_; intro _))
  refine VC_loop ⟨fun k : Nat => k ≤ ra.length ∧ (ra.take k).map Row.l = (rb.take k).map Row.l, fun k => [(0, .slice A ra.length ca), (1, .slice B rb.length cb), (5, i64 (k : Int))], fun _ => [], fun _ => []⟩ (fun k => ra.length - k) 0 ⟨by omega, by simp⟩ ⟨rfl, rfl, rfl, trivial⟩ (fun _ s => s) ?_
  rintro k ⟨hk, ht⟩
  dsimp only at hk ht ⊢
  by_cases hkn : k < ra.length
  · obtain ⟨r, hr⟩ : ∃ r, ra[k]? = some r := ⟨ra[k]'hkn, List.getElem?_eq_getElem _⟩
    obtain ⟨q, hq⟩ : ∃ q, rb[k]? = some q := ⟨rb[k]'(by omega), List.getElem?_eq_getElem _⟩
    repeat (first | refine st ?_ | (refine sa ?_; intro _))
    refine VC_draw (S := fun w' => St w [] [] w') mixed (fun _ s => s) ?_
    refine tk 0 ?_
    refine tk 1 ?_
    refine tk 2 ?_
    refine tk (v := r.val) 3 ?_ (hS := fun w1 h1 => ⟨_, h1, Y_load rfl rfl (fun w2 s2 => s2.ocell (hA1.cell (get_row hr)))⟩)
    refine tk 4 ?_
    refine tk 5 ?_
    refine tk 6 ?_
    refine tk (v := q.val) 7 ?_ (hS := fun w1 h1 => ⟨_, h1, Y_load rfl rfl (fun w2 s2 => s2.ocell (hB1.cell (get_row hq)))⟩)
    apply VA_step 8; exact rfl; kernel_rfl
    apply VL_call; exact .none; exact rfl; exact rfl
    · intro w1 s; exact eqBytes w1 r.A q.A r.c q.c r.l q.l (s.rd (hA.each r (List.mem_of_getElem? hr))) (s.rd (hB.each q (List.mem_of_getElem? hq))) (hl r (List.mem_of_getElem? hr))
    rintro w1 v w2 s ⟨rfl, t⟩
    refine ⟨_, _, s.comp t, VL_nil (VA_back (fun w s => s) ?_)⟩
    refine tk 9 ?_
    refine VA_done (by kernel_rfl) ?_
    repeat (first | refine st ?_ | (refine sa ?_; intro _))
    refine VC_cond_d rfl (fun heq => ?_) (fun heq => ?_)
    · repeat (first | refine st ?_ | (refine sa ?_; intro _))
      refine VE_ret1 rfl rfl (fun w s => ⟨_, rfl, ?_, s⟩)
      rw [decide_eq_false (fun e => heq ?_)]
      have := congrArg (fun x : List (List UInt8) => x[k]?) e
      simpa [hr, hq] using this
    · have heq' : r.l = q.l := by simpa using heq
      repeat (first | refine st ?_ | (refine sa ?_; intro _))
      refine VE_fam (k + 1) ⟨by omega, ?_⟩ (by (try dsimp only); omega) ⟨rfl, rfl, rfl, trivial⟩ (fun _ s => s)
      rw [List.take_add_one, List.take_add_one, hr, hq, List.map_append, List.map_append, ht]; simp [heq']
  · have hk' : k = ra.length := by omega
    subst hk'
    repeat (first | refine st ?_ | (refine sa ?_; intro _))
    refine VE_ret1 rfl rfl (fun w s => ⟨_, rfl, ?_, s⟩)
    rw [List.take_length, hlen, List.take_length] at ht
    rw [decide_eq_true ht]

/-- rows of lists of the call's own, in a list of its own -/
def NewRows (e : Ent) (es : List Ent) (A' : Option Addr) (c' : Nat) (rs : List Row) (ls : List (List UInt8)) : Prop :=
  OwnSl e A' c' 32 (rs.map Row.val) ∧ OwnRows es rs ∧ rs.map Row.l = ls
theorem NewRows.nil : NewRows none [] none 0 [] [] := ⟨OwnSl.nil _, OwnRows.nil, rfl⟩
theorem NewRows.len {e es A' c' rs ls} (h : NewRows e es A' c' rs ls) : rs.length = ls.length := by rw [← h.2.2]; simp
theorem NewRows.rd {w0 w : World} {H : List Ent} {e es A' c' rs ls} (h : NewRows e es A' c' rs ls) (s : St w0 [] (e :: es) w) : RdRows w A' rs :=
  ⟨s.rdO (k := 0) rfl h.1, h.2.1.rd (H := [e]) s⟩
theorem NewRows.rdAt {w0 w : World} {H : List Ent} {e es A' c' rs ls} (h : NewRows e es A' c' rs ls) (s : St w0 [] (H ++ e :: es) w) : RdRows w A' rs := by
  refine ⟨s.rdO (k := H.length) (by simp) h.1, h.2.1.rd (H := H ++ [e]) (by simpa using s)⟩

set_option maxHeartbeats 1000000 in
theorem copyRows (w : World) (A : Option Addr) (ca : Nat) (ra : List Row) (hA : RdRows w A ra) (hn : ra.length ≤ 4000000000000) (hl : ∀ r ∈ ra, r.l.length ≤ 140737488355328) :
    Calls Tryd.prog 55 #[.slice A ra.length ca] w (Ret fun v w' => ∃ e es A' c' rs, v = .slice A' ra.length c' ∧ NewRows e es A' c' rs (ra.map Row.l) ∧ St w [] (e :: es) w') := by
  have hA1 := hA.rd
  refine enter (args := [_]) Tryd.func55 rfl rfl rfl ?_
  repeat (first | refine st ?_ | (refine sa ?_; intro _))
  refine VC_loop ⟨fun i : Nat × Ent × Option Addr × Nat × List Ent × List Row => i.1 ≤ ra.length ∧ NewRows i.2.1 i.2.2.2.2.1 i.2.2.1 i.2.2.2.1 i.2.2.2.2.2 ((ra.take i.1).map Row.l),
    fun i => [(0, .slice A ra.length ca), (3, .slice i.2.2.1 i.1 i.2.2.2.1), (4, i64 (i.1 : Int))], fun _ => [], fun i => i.2.1 :: i.2.2.2.2.1⟩ (fun i => ra.length - i.1) (0, none, none, 0, [], []) ⟨by simp, by simpa using NewRows.nil⟩ ⟨rfl, rfl, rfl, trivial⟩ (fun _ s => s.none) ?_
  rintro ⟨k, e, A', c', es, rs⟩ ⟨hk, ho⟩
  dsimp only at hk ho ⊢
  have hrk : rs.length = k := by rw [ho.len]; simp; omega
  by_cases hkn : k < ra.length
  · obtain ⟨r, hr⟩ : ∃ r, ra[k]? = some r := ⟨ra[k]'hkn, List.getElem?_eq_getElem _⟩
    have hrm := List.mem_of_getElem? hr
    repeat (first | refine st ?_ | (refine sa ?_; intro _))
    apply VL_call; exact .none; exact rfl; exact rfl
    · intro w1 s; exact copyBytes w1 r.A r.c r.l (s.rd (hA.each r hrm)) (hl r hrm)
    rintro w1 v w2 s ⟨e2, A2, c2, rfl, h2, t⟩
    refine ⟨_, _, s.comp0 t, ?_⟩
    apply VL_buildSlice1; exact .none; exact rfl; exact rfl; exact rfl; exact rfl; exact rfl; exact rfl; exact rfl
    intro bt
    refine VL_append (vs := rs.map Row.val) (news := [Row.val ⟨A2, c2, r.l⟩]) (p := 0) (r := k + 1) .none rfl rfl rfl rfl ho.1 (by simp [hrk]) (all_row _) rfl (fun w s => s.rdH (get_last _ _)) rfl rfl (by simp [hrk]) (by omega) rfl (fun e3 A3 c3 h3 => ?_)
    repeat (first | refine st ?_ | (refine sa ?_; intro _))
    refine VE_fam (k + 1, e3, A3, c3, es ++ [e2], rs ++ [⟨A2, c2, r.l⟩]) ⟨by (try dsimp only); omega, ?_, ?_, ?_⟩ (by (try dsimp only); omega) ⟨rfl, rfl, rfl, trivial⟩ (fun _ s => s.perm ?_)
    · dsimp only; rw [List.map_append]; exact h3
    · exact ho.2.1.snoc h2
    · dsimp only; rw [List.take_add_one, hr, List.map_append, List.map_append, ho.2.2]; simp
    · dsimp only; simp
  · have hk' : k = ra.length := by omega
    subst hk'
    rw [List.take_length] at ho
    repeat (first | refine st ?_ | (refine sa ?_; intro _))
    exact VE_ret1 rfl rfl (fun w s => ⟨_, rfl, e, es, A', c', rs, rfl, ho, s⟩)

/-! ### frames laid -/
def frameF (n : Int) (ls : List (List UInt8)) : List UInt8 × Int :=
  if 1 ≤ n ∧ n < 64 then (if ls.length ≤ 256 then (if ∀ l ∈ ls, l.length = 88 then (le n.toNat 4 ++ le ls.length 4 ++ ls.flatten, 0) else ([], 4)) else ([], 3)) else ([], 201)
theorem frame (w : World) (n : Int) (A : Option Addr) (ca : Nat) (rs : List Row) (hA : RdRows w A rs) (hE : (∀ r ∈ rs, r.l.length = 88) ∨ ErrCell w) :
    Calls Tryd.prog 26 #[i64 n, .slice A rs.length ca] w (Ret (Ans (frameF n (rs.map Row.l)).1 (frameF n (rs.map Row.l)).2 w)) := by
  refine enter (args := [_, _]) Tryd.func26 rfl rfl rfl ?_
  unfold frameF
  by_cases h0 : 1 ≤ n
  · by_cases h1 : n < 64
    · rw [if_pos ⟨h0, h1⟩]
      rw [List.length_map]
      by_cases h256 : rs.length ≤ 256
      · rw [if_pos h256]
        obtain ⟨m, rfl⟩ := Int.eq_ofNat_of_zero_le (show 0 ≤ n by omega)
        repeat (first | refine st ?_ | (refine sa ?_; intro _))
        apply VL_buildSlice1; exact .none; exact rfl; exact rfl; exact rfl; exact rfl; exact rfl; exact rfl; exact rfl
        intro bs
        have hcat : cat rs = (rs.map Row.l).flatten := rfl
        have hp : pcat [.i m, .i rs.length, .rows A ca rs] = le m 4 ++ le rs.length 4 ++ (rs.map Row.l).flatten := by simp [pcat, Part.bytes, hcat]
        have hpl : (pcat [.i m, .i rs.length, .rows A ca rs]).length = 8 + (cat rs).length := by rw [hp, hcat]; simp [le_length]; omega
        have hok : ∀ w1 H, St w [] H w1 → ∀ p ∈ [Part.i m, .i rs.length, .rows A ca rs], p.ok w1 := by
          intro w1 H s p hp
          simp at hp
          rcases hp with rfl | rfl | rfl
          · show m < 4294967296; omega
          · show rs.length < 4294967296; omega
          · exact ⟨s.rdRows hA, by omega⟩
        have hflat : ∀ (ls : List (List UInt8)), (∀ l ∈ ls, l.length = 88) → ls.flatten.length = 88 * ls.length := by
          intro ls
          induction ls with
          | nil => intro _; rfl
          | cons l ls ih => intro h; rw [List.flatten_cons, List.length_append, ih (fun l' h' => h l' (by simp [h'])), h l (by simp), List.length_cons]; omega
        by_cases h88 : ∀ r ∈ rs, r.l.length = 88
        · have h88' : ∀ l ∈ rs.map Row.l, l.length = 88 := by
            intro l hl
            obtain ⟨r, hr, rfl⟩ := List.mem_map.1 hl
            exact h88 r hr
          rw [if_pos h88']
          have := hflat _ h88'
          rw [List.length_map] at this
          apply VL_call; exact .none; exact rfl; exact rfl
          · intro w1 s; exact laid_good w1 (some ⟨bs, 0, none⟩) 3 [.i m, .i rs.length, .rows A ca rs] (s.rdH (k := 0) rfl) (hok w1 _ s) (fun p hp => by simp at hp; rcases hp with rfl | rfl | rfl; trivial; trivial; exact h88) (by simp) (by rw [hpl, hcat]; omega)
          rintro w1 v w2 s ⟨e2, A2, c2, rfl, ho, t⟩
          refine ⟨_, _, s.comp0 t, ?_⟩
          rw [hp] at ho ⊢
          repeat (first | refine st ?_ | (refine sa ?_; intro _))
          exact VE_ret2 rfl rfl rfl (fun w s => ⟨_, rfl, e2, A2, c2, rfl, ho, s.pick [1] (by decide)⟩)
        · have h88' : ¬ ∀ l ∈ rs.map Row.l, l.length = 88 := fun h => h88 fun r hr => h r.l (List.mem_map_of_mem hr)
          rw [if_neg h88']
          have hE := hE.resolve_left h88
          apply VL_call; exact .none; exact rfl; exact rfl
          · intro w1 s; exact laid_bad w1 (some ⟨bs, 0, none⟩) 3 [.i m, .i rs.length, .rows A ca rs] (s.rdH (k := 0) rfl) (hok w1 _ s) (fun hall => h88 (hall (.rows A ca rs) (by simp))) (s.err hE) (by simp) (by simp [psize, Part.size, Part.bytes, le_length]; omega)
          rintro w1 v w2 s ⟨e2, A2, c2, rfl, ho, t⟩
          refine ⟨_, _, s.comp0 t, ?_⟩
          repeat (first | refine st ?_ | (refine sa ?_; intro _))
          exact VE_ret2 rfl rfl rfl (fun w s => ⟨_, rfl, e2, A2, c2, rfl, ho, s.pick [1] (by decide)⟩)
      · rw [if_neg h256]
        repeat (first | refine st ?_ | (refine sa ?_; intro _))
        exact VE_ret2 rfl rfl rfl (fun w s => ⟨_, rfl, Ans.none s⟩)
    · rw [if_neg (by omega)]
      repeat (first | refine st ?_ | (refine sa ?_; intro _))
      exact VE_ret2 rfl rfl rfl (fun w s => ⟨_, rfl, Ans.none s⟩)
  · rw [if_neg (by omega)]
    repeat (first | refine st ?_ | (refine sa ?_; intro _))
    exact VE_ret2 rfl rfl rfl (fun w s => ⟨_, rfl, Ans.none s⟩)
end Go.Proofs.YtpboahlpgfglkaaDoor.X
