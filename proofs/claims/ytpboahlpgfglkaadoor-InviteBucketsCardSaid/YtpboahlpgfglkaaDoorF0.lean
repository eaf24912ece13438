/-
  Contracts: lists of bytes compared, copied.
-/
import Derived.Test.YtpboahlpgfglkaaDoorX7
import Derived.Test.YtpboahlpgfglkaaDoorXT
namespace Go.Proofs.YtpboahlpgfglkaaDoor.X
open Go Go.RowKit
set_option linter.unusedVariables false
set_option linter.unusedSimpArgs false
set_option maxRecDepth 100000

theorem mixed : Tryd.prog.follows .mixedOrders = true := by kernel_rfl

theorem eqBytes (w : World) (A B : Option Addr) (ca cb : Nat) (la lb : List UInt8) (hA : Rd w A (la.map u8)) (hB : Rd w B (lb.map u8)) (hla : la.length ≤ 4611686018427387904) :
    Calls Tryd.prog 28 #[.slice A la.length ca, .slice B lb.length cb] w (Ret fun v w' => v = .bool (decide (la = lb)) ∧ St w [] [] w') := by
  refine enter (args := [_, _]) Tryd.func28 rfl rfl rfl ?_
  repeat (first | refine st ?_ | (refine sa ?_; intro _))
  refine VC_cond_d rfl (fun h => ?_) (fun h => ?_)
  · repeat (first | refine st ?_ | (refine sa ?_; intro _))
    refine VE_ret1 rfl rfl (fun w s => ⟨_, rfl, ?_, s⟩)
    rw [decide_eq_false (fun e => h (by rw [e]))]
  have hlen : la.length = lb.length := by omega
  repeat (first | refine st ?_ | (refine sa ?_; intro _))
  refine VC_loop ⟨fun k : Nat => k ≤ la.length ∧ la.take k = lb.take k, fun k => [(0, .slice A la.length ca), (1, .slice B lb.length cb), (5, i64 (k : Int))], fun _ => [], fun _ => []⟩ (fun k => la.length - k) 0 ⟨by omega, rfl⟩ ⟨rfl, rfl, rfl, trivial⟩ (fun _ s => s) ?_
  rintro k ⟨hk, ht⟩
  dsimp only
  repeat (first | refine st ?_ | (refine sa ?_; intro _))
  refine VC_cond_d rfl (fun h => ?_) (fun h => ?_)
  · repeat (first | refine st ?_ | (refine sa ?_; intro _))
    refine VC_still mixed (by kernel_rfl) ?_
    repeat (first | refine st ?_ | (refine sa ?_; intro _))
    refine VC_cond_d rfl (fun h' => ?_) (fun h' => ?_)
    · repeat (first | refine st ?_ | (refine sa ?_; intro _))
      refine VE_ret1 rfl rfl (fun w s => ⟨_, rfl, ?_, s⟩)
      rw [decide_eq_false (fun e => h' (by rw [e]))]
    · repeat (first | refine st ?_ | (refine sa ?_; intro _))
      refine VE_fam (k + 1) ⟨by omega, ?_⟩ (by omega) ⟨rfl, rfl, rfl, trivial⟩ (fun _ s => s)
      have hkb : k < lb.length := by omega
      rw [take_snoc8 (by omega), take_snoc8 hkb, ht, show la.getD k 0 = lb.getD k 0 by simpa using h']
  · repeat (first | refine st ?_ | (refine sa ?_; intro _))
    refine VE_ret1 rfl rfl (fun w s => ⟨_, rfl, ?_, s⟩)
    have hk' : k = la.length := by omega
    subst hk'
    rw [List.take_length, hlen, List.take_length] at ht
    rw [decide_eq_true ht]

theorem copyBytes (w : World) (A : Option Addr) (ca : Nat) (l : List UInt8) (hA : Rd w A (l.map u8)) (hl : l.length ≤ 140737488355328) :
    Calls Tryd.prog 35 #[.slice A l.length ca] w (Ret fun v w' => ∃ e A' c', v = .slice A' l.length c' ∧ OwnSl e A' c' 5 (l.map u8) ∧ St w [] [e] w') := by
  refine enter (args := [_]) Tryd.func35 rfl rfl rfl ?_
  repeat (first | refine st ?_ | (refine sa ?_; intro _))
  refine VL_makeSlice .none rfl rfl rfl (l' := 0) (c' := l.length) rfl rfl (by omega) (by omega) (by omega) rfl (fun e0 A0 h0 => ?_)
  repeat (first | refine st ?_ | (refine sa ?_; intro _))
  refine VC_loop ⟨fun i : Nat × Ent × Option Addr × Nat => i.1 ≤ l.length ∧ OwnSl i.2.1 i.2.2.1 i.2.2.2 5 ((l.take i.1).map u8), fun i => [(0, .slice A l.length ca), (3, .slice i.2.2.1 i.1 i.2.2.2), (4, i64 (i.1 : Int))], fun _ => [], fun i => [i.2.1]⟩ (fun i => l.length - i.1) (0, e0, A0, l.length) ⟨by simp, by simpa using h0⟩ ⟨rfl, rfl, rfl, trivial⟩ (fun _ s => s) ?_
  rintro ⟨k, e, A', c'⟩ ⟨hk, ho⟩
  dsimp only at hk ho ⊢
  have hlen : ((l.take k).map u8).length = k := by simp; omega
  repeat (first | refine st ?_ | (refine sa ?_; intro _))
  refine VC_cond_d rfl (fun h => ?_) (fun h => ?_)
  · repeat (first | refine st ?_ | (refine sa ?_; intro _))
    apply VL_buildSlice1; exact .none; exact rfl; exact rfl; exact rfl; exact rfl; exact rfl; exact rfl; exact rfl
    intro b
    refine VL_append (vs := (l.take k).map u8) (news := [u8 (l.getD k 0)]) (p := 0) (r := k + 1) .none rfl rfl rfl rfl ho hlen.symm (all_u8 _) rfl (fun w s => s.rdH (k := 1) rfl) rfl rfl (by rw [hlen]; rfl) (by omega) rfl (fun e1 A1 c1 h1 => ?_)
    repeat (first | refine st ?_ | (refine sa ?_; intro _))
    refine VE_fam (k + 1, e1, A1, c1) ⟨by omega, ?_⟩ (by dsimp only; omega) ⟨rfl, rfl, rfl, trivial⟩ (fun _ s => s.perm (by simp))
    rw [take_snoc8 (by omega), List.map_append]; exact h1
  · have hk' : k = l.length := by omega
    subst hk'
    rw [List.take_length] at ho
    repeat (first | refine st ?_ | (refine sa ?_; intro _))
    exact VE_ret1 rfl rfl (fun w s => ⟨_, rfl, e, A', c', rfl, ho, s⟩)
end Go.Proofs.YtpboahlpgfglkaaDoor.X
