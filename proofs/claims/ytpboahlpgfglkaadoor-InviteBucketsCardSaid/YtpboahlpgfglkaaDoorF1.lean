/-
  Contracts: a list of bytes with marked room behind it, made and looked at.
-/
import Derived.Test.YtpboahlpgfglkaaDoorF0
namespace Go.Proofs.YtpboahlpgfglkaaDoor.X
open Go Go.RowKit
set_option linter.unusedVariables false
set_option linter.unusedSimpArgs false
set_option maxRecDepth 100000

def markAt (i : Nat) : UInt8 := UInt8.ofNat (165 ^^^ i)
def marks (n : Nat) : List UInt8 := (List.range 80).map fun j => markAt (n + j)
theorem marks_length (n : Nat) : (marks n).length = 80 := by simp [marks]
theorem marks_get (n j : Nat) (h : j < 80) : (marks n).getD j 0 = markAt (n + j) := by simp [marks, List.getD, h]
theorem fill_step (T : List UInt8) (k n : Nat) (hk : k < T.length) (hn : T.length = n) :
    (T.take k ++ List.replicate (n - k) (0 : UInt8)).set k (T.getD k 0) = T.take (k + 1) ++ List.replicate (n - (k + 1)) 0 := by
  rw [take_snoc8 hk]
  obtain ⟨m, hm⟩ : ∃ m, n - k = m + 1 := ⟨n - k - 1, by omega⟩
  have hm' : n - (k + 1) = m := by omega
  have hl : (T.take k).length = k := by simp; omega
  rw [hm, hm', List.replicate_succ, List.set_append_right _ _ (by omega), hl, Nat.sub_self]
  simp

theorem spare (w : World) (A : Option Addr) (ca : Nat) (l : List UInt8) (hA : Rd w A (l.map u8)) (hl : l.length + 80 ≤ 140737488355328) :
    Calls Tryd.prog 15 #[.slice A l.length ca] w (Ret fun v w' => ∃ b, v = .slice (some ⟨b, 0, none⟩) l.length (l.length + 80) ∧ St w [] [Blk b ((l ++ marks l.length).map u8) 5] w') := by
  refine enter (args := [_]) Tryd.func15 rfl rfl rfl ?_
  repeat (first | refine st ?_ | (refine sa ?_; intro _))
  refine VL_makeBlk .none rfl rfl rfl (l' := l.length + 80) (c' := l.length + 80) rfl rfl (by omega) (by omega) (by omega) rfl (fun b => ?_)
  repeat (first | refine st ?_ | (refine sa ?_; intro _))
  have hT : (l ++ marks l.length).length = l.length + 80 := by simp [marks_length]
  obtain ⟨T, hTd⟩ : ∃ T, T = l ++ marks l.length := ⟨_, rfl⟩
  rw [← hTd] at hT ⊢
  refine VC_loop ⟨fun k : Nat => k ≤ l.length + 80, fun k => [(0, .slice A l.length ca), (3, .slice (some ⟨b, 0, none⟩) (l.length + 80) (l.length + 80)), (4, i64 (k : Int))], fun _ => [], fun k => [Blk b ((T.take k ++ List.replicate (l.length + 80 - k) 0).map u8) 5]⟩ (fun k => l.length + 80 - k) 0 (by simp) ⟨rfl, rfl, rfl, trivial⟩ (fun _ s => by simpa using s) ?_
  rintro k hk
  dsimp only at hk ⊢
  repeat (first | refine st ?_ | (refine sa ?_; intro _))
  refine VC_cond_d rfl (fun h => ?_) (fun h => ?_)
  · have hlen : ((T.take k ++ List.replicate (l.length + 80 - k) (0 : UInt8)).map u8).length = l.length + 80 := by simp; omega
    repeat (first | refine st ?_ | (refine sa ?_; intro _))
    refine VC_cond_d rfl (fun h' => ?_) (fun h' => ?_)
    · repeat (first | refine st ?_ | (refine sa ?_; intro _))
      refine VL_storeB (p := 0) .none rfl rfl rfl rfl (by rw [hlen]; omega) (NF.zero _) ?_
      repeat (first | refine st ?_ | (refine sa ?_; intro _))
      have e1 : l.getD k 0 = T.getD k 0 := by rw [hTd]; simp [List.getD, List.getElem?_append_left (show k < l.length by omega)]
      refine VE_fam (k + 1) (by (try dsimp only); omega) (by (try dsimp only); omega) ⟨rfl, rfl, rfl, trivial⟩ (fun _ s => ?_)
      rw [e1, ← List.map_set, fill_step T k _ (by omega) hT] at s
      exact s
    · repeat (first | refine st ?_ | (refine sa ?_; intro _))
      apply VL_bin; exact .none; exact rfl; exact rfl; exact bi_xor (a := 165) (by omega) (by omega); exact rfl
      apply VL_convert; exact .none; exact rfl; exact wrap_u8_of _; exact rfl
      repeat (first | refine st ?_ | (refine sa ?_; intro _))
      refine VL_storeB (p := 0) .none rfl rfl rfl rfl (by rw [hlen]; omega) (NF.zero _) ?_
      repeat (first | refine st ?_ | (refine sa ?_; intro _))
      have e1 : UInt8.ofNat (165 ^^^ k) = T.getD k 0 := by
        rw [hTd]
        simp only [List.getD, List.getElem?_append_right (show l.length ≤ k by omega)]
        have := marks_get l.length (k - l.length) (by omega)
        simp only [List.getD] at this
        rw [this, markAt, show l.length + (k - l.length) = k by omega]
      refine VE_fam (k + 1) (by (try dsimp only); omega) (by (try dsimp only); omega) ⟨rfl, rfl, rfl, trivial⟩ (fun _ s => ?_)
      rw [e1] at s
      have s' : St w [] [Blk b (((T.take k ++ List.replicate (l.length + 80 - k) 0).map u8).set k (u8 (T.getD k 0))) 5] _ := s
      rw [← List.map_set, fill_step T k _ (by omega) hT] at s'
      exact s'
  · have hk' : k = l.length + 80 := by omega
    subst hk'
    have e2 : T.take (l.length + 80) ++ List.replicate (l.length + 80 - (l.length + 80)) 0 = T := by rw [← hT, List.take_length]; simp
    rw [e2]
    repeat (first | refine st ?_ | (refine sa ?_; intro _))
    refine VL_slice_hi .none rfl rfl rfl (by omega) (fun a h => by cases h; rfl) rfl ?_
    repeat (first | refine st ?_ | (refine sa ?_; intro _))
    exact VE_ret1 rfl rfl (fun w s => ⟨_, rfl, b, rfl, s⟩)

/-- 'la' is looked at with the 80 places behind it ('ma') -/
theorem kept (w : World) (A B : Option Addr) (ca cb : Nat) (la ma lb : List UInt8) (hA : Rd w A ((la ++ ma).map u8)) (hm : ma.length = 80) (hca : la.length + 80 ≤ ca) (hB : Rd w B (lb.map u8)) (hl : la.length ≤ 140737488355328) :
    Calls Tryd.prog 34 #[.slice A la.length ca, .slice B lb.length cb] w (Ret fun v w' => v = .bool (decide (la = lb ∧ ma = marks la.length)) ∧ St w [] [] w') := by
  have hsafe : ∀ a, A = some a → a.spot = none := by
    rintro a rfl
    rcases hA with h | ⟨b, off, h, -⟩
    · have := congrArg List.length h; simp [hm] at this
    · cases h; rfl
  have hA' : Rd w A (la.map u8) := by rw [List.map_append] at hA; exact hA.append
  refine enter (args := [_, _]) Tryd.func34 rfl rfl rfl ?_
  repeat (first | refine st ?_ | (refine sa ?_; intro _))
  apply VL_call; exact .none; exact rfl; exact rfl
  · intro w1 s; exact eqBytes w1 A B ca cb la lb (s.rd hA') (s.rd hB) (by omega)
  rintro w1 v w2 s ⟨rfl, t⟩
  refine ⟨_, _, s.comp t, ?_⟩
  repeat (first | refine st ?_ | (refine sa ?_; intro _))
  refine VC_cond_b rfl (fun h => ?_) (fun h => ?_)
  · have hne : la ≠ lb := by simpa using h
    repeat (first | refine st ?_ | (refine sa ?_; intro _))
    refine VE_ret1 rfl rfl (fun w s => ⟨_, rfl, ?_, s⟩)
    rw [decide_eq_false (fun e => hne e.1)]
  have he : la = lb := by simpa using h
  subst he
  repeat (first | refine st ?_ | (refine sa ?_; intro _))
  refine VL_slice_hi (i' := la.length + 80) .none rfl rfl (by omega) (by omega) hsafe rfl ?_
  repeat (first | refine st ?_ | (refine sa ?_; intro _))
  have hT : (la ++ ma).length = la.length + 80 := by simp [hm]
  refine VC_loop ⟨fun k : Nat => k ≤ 80 ∧ ma.take k = (marks la.length).take k, fun k => [(5, .slice A (la.length + 80) ca), (6, i64 ((la.length + k : Nat) : Int))], fun _ => [], fun k => []⟩ (fun k => 80 - k) 0 ⟨by omega, rfl⟩ ⟨rfl, rfl, trivial⟩ (fun _ s => s) ?_
  rintro k ⟨hk, ht⟩
  dsimp only at hk ht ⊢
  repeat (first | refine st ?_ | (refine sa ?_; intro _))
  refine VC_cond_d rfl (fun h => ?_) (fun h => ?_)
  · have hk' : k < 80 := by omega
    have hlen : 0 < ((la ++ ma).map u8).length := by rw [List.length_map, hT]; omega
    repeat (first | refine st ?_ | (refine sa ?_; intro _))
    apply VL_indexAddr_slice1; exact .none; exact rfl; exact rfl; exact rfl; omega; exact hA.safe0 hlen; exact rfl
    apply VL_load; exact .none; exact rfl; exact rfl
    · exact fun w s => s.ocell (hA.cell (get_u8 (by rw [hT]; omega)))
    exact rfl
    repeat (first | refine st ?_ | (refine sa ?_; intro _))
    apply VL_bin; exact .none; exact rfl; exact rfl; exact bi_xor (a := 165) (by omega) (by omega); exact rfl
    apply VL_convert; exact .none; exact rfl; exact wrap_u8_of _; exact rfl
    repeat (first | refine st ?_ | (refine sa ?_; intro _))
    have e1 : (la ++ ma).getD (la.length + k) 0 = ma.getD k 0 := by simp [List.getD, List.getElem?_append_right]
    have e2 : UInt8.ofNat (165 ^^^ (la.length + k)) = (marks la.length).getD k 0 := by rw [marks_get _ _ hk', markAt]
    rw [e1, e2]
    refine VC_cond_d rfl (fun h' => ?_) (fun h' => ?_)
    · repeat (first | refine st ?_ | (refine sa ?_; intro _))
      refine VE_ret1 rfl rfl (fun w s => ⟨_, rfl, ?_, s⟩)
      rw [decide_eq_false (fun e => h' (by rw [e.2]))]
    · have h'' : ma.getD k 0 = (marks la.length).getD k 0 := by simpa using h'
      repeat (first | refine st ?_ | (refine sa ?_; intro _))
      refine VE_fam (k + 1) ⟨by omega, ?_⟩ (by (try dsimp only); omega) ⟨rfl, rfl, trivial⟩ (fun _ s => s)
      rw [take_snoc8 (by omega), take_snoc8 (by rw [marks_length]; omega), ht, h'']
  · have hk' : k = 80 := by omega
    subst hk'
    rw [List.take_of_length_le (by omega), List.take_of_length_le (by rw [marks_length]; omega)] at ht
    repeat (first | refine st ?_ | (refine sa ?_; intro _))
    refine VE_ret1 rfl rfl (fun w s => ⟨_, rfl, ?_, s⟩)
    rw [decide_eq_true ⟨rfl, ht⟩]
end Go.Proofs.YtpboahlpgfglkaaDoor.X
