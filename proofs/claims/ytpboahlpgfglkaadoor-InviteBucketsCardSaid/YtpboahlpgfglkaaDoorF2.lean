/-
  Contracts: the reader of bytes.
-/
import Derived.Test.YtpboahlpgfglkaaDoorF1
namespace Go.Proofs.YtpboahlpgfglkaaDoor.X
open Go Go.RowKit
set_option linter.unusedVariables false
set_option linter.unusedSimpArgs false
set_option maxRecDepth 100000

theorem newReader (w : World) (A : Option Addr) (ca : Nat) (l : List UInt8) (hA : Rd w A (l.map u8)) (hl : l.length ≤ 140737488355328) :
    Calls Tryd.prog 69 #[.slice A l.length ca] w (Ret fun v w' => ∃ b d, v = .pointer (some ⟨b, 0, none⟩) ∧
      St w [] [Blk d (l.map u8) 5, Blk b [.slice (some ⟨d, 0, none⟩) l.length l.length, i64 0] 125] w') := by
  refine enter (args := [_]) Tryd.func69 rfl rfl rfl ?_
  repeat (first | refine st ?_ | (refine sa ?_; intro _))
  refine VL_makeBlk .none rfl rfl rfl (l' := l.length) (c' := l.length) rfl rfl (by omega) (by omega) (by omega) rfl (fun d => ?_)
  repeat (first | refine st ?_ | (refine sa ?_; intro _))
  refine VL_copy (p := 0) (news := l.map u8) .none rfl rfl rfl (NF.zero _) (by simp) (by simp) (fun w s => s.rd hA) (all_u8 _) rfl ?_
  have e1 : splice (List.replicate l.length (u8 0)) 0 ((l.map u8).take l.length) = l.map u8 := by
    rw [List.take_of_length_le (by simp)]; exact splice_all (by simp)
  rw [e1]
  repeat (first | refine st ?_ | (refine sa ?_; intro _))
  refine VL_build (v := .agg #[.slice (some ⟨d, 0, none⟩) l.length l.length, .int .i64 0]) .none rfl (fun w => by kernel_rfl) rfl ?_
  repeat (first | refine st ?_ | (refine sa ?_; intro _))
  exact VE_ret1 rfl rfl (fun w s => ⟨_, rfl, _, d, rfl, s⟩)

/-- the reader's block -/
abbrev rdr (A : Option Addr) (m c : Nat) (err : Int) : Obj := .cells [.slice A m c, i64 err].toArray 125 (0, 0)
theorem St.one {w : World} {b : Nat} {o : Obj} (h : w.heap[b]? = some o) : St w [(b, o)] [] w := by
  refine ⟨rfl, rfl, rfl, Nat.le_refl _, fun _ _ _ => rfl, fun k c q hk => ?_, fun i j c q q' hi hj => ?_, fun k b o h => by simp at h, fun i j b o o' h => by simp at h⟩
  · cases k with
    | zero => simp at hk; obtain ⟨rfl, rfl⟩ := hk; exact ⟨lt_of_some h, h⟩
    | succ k => simp at hk
  · cases i <;> cases j <;> simp at hi hj ⊢

theorem take_ok (w : World) (b : Nat) (A : Option Addr) (m c n : Nat) (hb : w.heap[b]? = some (rdr A m c 0)) (hn : n ≤ m) (hm : m ≤ c) (hc : c ≤ 4611686018427387904) :
    Calls Tryd.prog 92 #[.pointer (some ⟨b, 0, none⟩), i64 (n : Int)] w (Ret fun v w' => v = .slice A n n ∧ ∃ A', Sub A A' n (c - n) ∧ St w [(b, rdr A' (m - n) (c - n) 0)] [] w') := by
  refine enterM (args := [_, _]) Tryd.func92 rfl rfl rfl (St.one hb) ?_
  repeat (first | refine st ?_ | (refine sa ?_; intro _))
  apply VL_slice_himax; exact .none; exact rfl; exact rfl; exact rfl; exact rfl; exact rfl; exact Nat.le_refl _; omega; exact rfl
  repeat (first | refine st ?_ | (refine sa ?_; intro _))
  apply VL_slice_lo; exact .none; exact rfl; exact rfl; exact rfl; exact hn; exact rfl; intro A' hA'
  repeat (first | refine st ?_ | (refine sa ?_; intro _))
  apply VL_storeM1 (k := 0); exact .none; exact rfl; exact rfl; exact rfl; exact rfl; exact Nat.le_of_ble_eq_true rfl; exact NF.zero _
  repeat (first | refine st ?_ | (refine sa ?_; intro _))
  exact VE_ret1 rfl rfl (fun w s => ⟨_, rfl, rfl, A', by simpa using hA', s⟩)
theorem take_short (w : World) (b : Nat) (A : Option Addr) (m c n : Nat) (hb : w.heap[b]? = some (rdr A m c 0)) (hn : m < n) (hc : n ≤ 4611686018427387904) :
    Calls Tryd.prog 92 #[.pointer (some ⟨b, 0, none⟩), i64 (n : Int)] w (Ret fun v w' => v = .slice none 0 0 ∧ St w [(b, rdr A m c 20)] [] w') := by
  refine enterM (args := [_, _]) Tryd.func92 rfl rfl rfl (St.one hb) ?_
  repeat (first | refine st ?_ | (refine sa ?_; intro _))
  apply VL_storeM1 (k := 0); exact .none; exact rfl; exact rfl; exact rfl; exact rfl; exact Nat.le_of_ble_eq_true rfl; exact NF.zero _
  repeat (first | refine st ?_ | (refine sa ?_; intro _))
  apply VE_ret1; exact rfl; exact rfl; exact fun w s => ⟨_, rfl, rfl, s⟩
theorem take_err (w : World) (b : Nat) (A : Option Addr) (m c : Nat) (n e : Int) (hb : w.heap[b]? = some (rdr A m c e)) (he : e ≠ 0) :
    Calls Tryd.prog 92 #[.pointer (some ⟨b, 0, none⟩), i64 n] w (Ret fun v w' => v = .slice none 0 0 ∧ St w [(b, rdr A m c e)] [] w') := by
  refine enterM (args := [_, _]) Tryd.func92 rfl rfl rfl (St.one hb) ?_
  repeat (first | refine st ?_ | (refine sa ?_; intro _))
  exact VE_ret1 rfl rfl (fun w s => ⟨_, rfl, rfl, s⟩)
end Go.Proofs.YtpboahlpgfglkaaDoor.X
