/-
  Contract: two answers of one call, written over and grown; what was handed in stays.
-/
import Derived.Test.YtpboahlpgfglkaaDoorF30
namespace Go.Proofs.YtpboahlpgfglkaaDoor.X
open Go Go.RowKit
set_option linter.unusedVariables false
set_option linter.unusedSimpArgs false
set_option maxRecDepth 100000

theorem St.rot {w0 w : World} {M : Mem} {X : List Ent} {e : Ent} (s : St w0 M (X ++ [e]) w) : St w0 M (e :: X) w := by
  refine s.sub (fun i => match i with | 0 => X.length | i + 1 => i) (fun k b o hk => ?_) (fun i j hi hj h => ?_)
  · cases k with
    | zero => simpa using hk
    | succ k =>
      simp only [List.getElem?_cons_succ] at hk
      have hlt : k < X.length := by
        rcases Nat.lt_or_ge k X.length with h' | h'
        · exact h'
        · rw [List.getElem?_eq_none h'] at hk; simp at hk
      dsimp only
      rw [List.getElem?_append_left hlt]; exact hk
  · simp only [List.length_cons] at hi hj
    cases i <;> cases j <;> dsimp only at h <;> omega
theorem keptT (w : World) (A B : Option Addr) (ca cb : Nat) (l : List UInt8) (hA : Rd w A ((l ++ marks l.length).map u8)) (hca : l.length + 80 ≤ ca) (hB : Rd w B (l.map u8)) (hl : l.length ≤ 140737488355328) :
    Calls Tryd.prog 34 #[.slice A l.length ca, .slice B l.length cb] w (Ret fun v w' => v = .bool true ∧ St w [] [] w') := by
  have q := kept w A B ca cb l (marks l.length) l hA (marks_length _) hca hB hl
  rw [decide_eq_true ⟨rfl, rfl⟩] at q; exact q
set_option maxHeartbeats 1000000 in
theorem twice (w0 w : World) (ea eb : Ent) (Aa Ab AW IA WA : Option Addr) (ca cb cw ic wc : Nat) (x l : List UInt8) (K : List Ent) (hs : St w0 [] (ea :: eb :: K) w) (ha : OwnSl ea Aa ca 5 (x.map u8)) (hb : OwnSl eb Ab cb 5 (x.map u8))
    (hW : ∀ w', St w0 [] (ea :: eb :: K) w' → Rd w' AW (x.map u8)) (hI : ∀ w', St w0 [] K w' → Rd w' IA ((l ++ marks l.length).map u8)) (hic : l.length + 80 ≤ ic) (hWas : Rd w0 WA (l.map u8)) (hx : x.length ≤ 140737488351232) (hl : l.length ≤ 140737488351232) :
    Calls Tryd.prog 18 #[.slice Aa x.length ca, .slice Ab x.length cb, .slice AW x.length cw, .slice IA l.length ic, .slice WA l.length wc] w (Ret fun v w' => v = .bool true ∧ St w0 [] K w') := by
  refine enterH (args := [_, _, _, _, _]) Tryd.func18 rfl rfl rfl hs ?_
  have sub : ∀ w', St w0 [] (ea :: eb :: K) w' → St w0 [] K w' := fun w' s => s.perm ((List.sublist_cons_self _ _).trans (List.sublist_cons_self _ _))
  repeat (first | refine st ?_ | (refine sa ?_; intro _))
  apply VL_call; exact .none; exact rfl; exact rfl
  · intro w1 s; exact eqT w1 Aa AW ca cw x (s.rdO (k := 0) rfl ha) (hW w1 s) (by omega)
  rintro w1 v w2 s ⟨rfl, t⟩
  refine ⟨_, _, s.comp t, ?_⟩
  repeat (first | refine st ?_ | (refine sa ?_; intro _))
  apply VL_call; exact .yes rfl rfl; exact rfl; exact rfl
  · intro w1 s; exact eqT w1 Ab AW cb cw x (s.rdO (k := 1) rfl hb) (hW w1 s) (by omega)
  rintro w1 v w2 s ⟨rfl, t⟩
  refine ⟨_, _, s.comp t, ?_⟩
  repeat (first | refine st ?_ | (refine sa ?_; intro _))
  apply VL_call; exact .yes rfl rfl; exact rfl; exact rfl
  · intro w1 s; exact keptT w1 IA WA ic wc l (hI w1 (sub w1 s)) hic (s.rd hWas) (by omega)
  rintro w1 v w2 s ⟨rfl, t⟩
  refine ⟨_, _, s.comp t, ?_⟩
  repeat (first | refine st ?_ | (refine sa ?_; intro _))
  apply VL_buildSlice1; exact .yes rfl rfl; exact rfl; exact rfl; exact rfl; exact rfl; exact rfl; exact rfl; exact rfl
  intro bs
  apply VL_call; exact .yes rfl rfl; exact rfl; exact rfl
  · intro w1 s
    refine apart w0 w1 (Blk bs [Row.val ⟨Aa, ca, x⟩, Row.val ⟨Ab, cb, x⟩] 32) (some ⟨bs, 0, none⟩) 2 [⟨Aa, ca, x⟩, ⟨Ab, cb, x⟩] [ea, eb] K s.rot (.inr ⟨bs, [], (0, 0), rfl, rfl, rfl, NF.zero _⟩) ⟨rfl, fun j e r he hr => ?_⟩ (by simp) (fun r hr => by simp at hr; rcases hr with rfl | rfl <;> exact hx)
    rcases j with _ | _ | j
    · simp at he hr; subst he hr; exact ha
    · simp at he hr; subst he hr; exact hb
    · simp at he
  rintro w1 v w2 s ⟨rfl, t⟩
  refine ⟨[], K, t, ?_⟩
  repeat (first | refine st ?_ | (refine sa ?_; intro _))
  apply VL_call; exact .yes rfl rfl; exact rfl; exact rfl
  · intro w1 s; exact keptT w1 IA WA ic wc l (hI w1 s) hic (s.rd hWas) (by omega)
  rintro w1 v w2 s ⟨rfl, t⟩
  refine ⟨_, _, s.comp t, ?_⟩
  repeat (first | refine st ?_ | (refine sa ?_; intro _))
  exact VE_ret1 rfl rfl (fun w s => ⟨_, rfl, rfl, s⟩)
end Go.Proofs.YtpboahlpgfglkaaDoor.X
