/-
  Contracts: laid, where a list has not its length; the reader's bytes; requests of a dial round laid and read; replies read.
-/
import Derived.Test.YtpboahlpgfglkaaDoorXA
import Derived.Test.YtpboahlpgfglkaaDoorF20
namespace Go.Proofs.YtpboahlpgfglkaaDoor.X
open Go Go.RowKit
set_option linter.unusedVariables false
set_option linter.unusedSimpArgs false
set_option maxRecDepth 100000

theorem St.err {w0 w : World} {H : List Ent} (s : St w0 [] H w) (h : ErrCell w0) : ErrCell w := s.ocell h
theorem laid_bad (w : World) (A : Option Addr) (ca : Nat) (parts : List Part) (hA : Rd w A (parts.map Part.val)) (hok : ∀ p ∈ parts, p.ok w) (hg : ¬ ∀ p ∈ parts, p.good) (hE : ErrCell w) (hn : parts.length ≤ 140737488351232) (hl : psize parts ≤ 140737488351232) :
    Calls Tryd.prog 64 #[.slice A parts.length ca] w (Ret (Ans [] 4 w)) := by
  refine enter (args := [_]) Tryd.func64 rfl rfl rfl ?_
  repeat (first | refine st ?_ | (refine sa ?_; intro _))
  apply VL_call; exact .none; exact rfl; exact rfl
  · intro w1 s; exact write w1 A ca parts (s.rd hA) (fun p hp => s.part (hok p hp)) hn hl
  rintro w1 v w2 s (⟨hb, -⟩ | ⟨-, rfl, t⟩)
  · exact absurd hb hg
  refine ⟨_, _, s.comp t, ?_⟩
  repeat (first | refine st ?_ | (refine sa ?_; intro _))
  rename_i q
  apply VL_call; exact .none; exact rfl; exact rfl
  · intro w1 s; exact as_hit 4 q 0 w1 (s.err hE) (s.new 0 q _ rfl).2
  rintro w1 v w2 s ⟨rfl, t⟩
  refine ⟨_, _, s.comp1 (k := 0) rfl t, ?_⟩
  repeat (first | refine st ?_ | (refine sa ?_; intro _))
  refine VC_still mixed (by kernel_rfl) ?_
  repeat (first | refine st ?_ | (refine sa ?_; intro _))
  exact VE_ret2 rfl rfl rfl (fun w s => ⟨_, rfl, Ans.none s⟩)

theorem bytes_ok (w : World) (b : Nat) (A : Option Addr) (m c n : Nat) (l : List UInt8) (hb : w.heap[b]? = some (rdr A m c 0)) (hA : Rd w A (l.map u8)) (hne : ∀ a, A = some a → a.block ≠ b) (hlm : l.length = m) (hn : n ≤ m) (hm : m ≤ c) (hc : c ≤ 140737488355328) :
    Calls Tryd.prog 72 #[.pointer (some ⟨b, 0, none⟩), i64 (n : Int)] w (Ret fun v w' => ∃ e A2 c2, v = .slice A2 n c2 ∧ OwnSl e A2 c2 5 ((l.take n).map u8) ∧ ∃ A', Sub A A' n (c - n) ∧ St w [(b, rdr A' (m - n) (c - n) 0)] [e] w') := by
  refine enterM (args := [_, _]) Tryd.func72 rfl rfl rfl (St.one hb) ?_
  repeat (first | refine st ?_ | (refine sa ?_; intro _))
  apply VL_call; exact .none; exact rfl; exact rfl
  · intro w1 s; exact take_ok w1 b A m c n (s.mold 0 b _ rfl).2 hn hm (by omega)
  rintro w1 v w2 s ⟨rfl, A', hA', t⟩
  refine ⟨_, _, s.compM (k := 0) rfl t, ?_⟩
  have hr : Rd w A ((l.take n).map u8) := by
    rw [← List.take_append_drop n l, List.map_append] at hA; exact hA.append
  have hlen : ((l.take n).map u8).length = n := by simp; omega
  refine VL_append_nil (news := (l.take n).map u8) .none rfl rfl rfl hlen.symm (fun w s => s.rdM hr (fun a ha => by simpa using hne a ha)) (all_u8 _) rfl (by omega) rfl (fun e A2 c2 ho => ?_)
  repeat (first | refine st ?_ | (refine sa ?_; intro _))
  exact VE_ret1 rfl rfl (fun w s => ⟨_, rfl, e, A2, c2, rfl, ho, A', hA', by simpa using s⟩)

/-! ### replies read -/
def orAll (l : List UInt8) : UInt8 := l.foldl (· ||| ·) 0
theorem orAll_take {l : List UInt8} {k : Nat} (h : k < l.length) : orAll (l.take (k + 1)) = orAll (l.take k) ||| l.getD k 0 := by
  rw [take_snoc8 h]; simp [orAll]
theorem or_zero {a b : UInt8} : a ||| b = 0 ↔ a = 0 ∧ b = 0 := by
  constructor
  · intro h
    have h' : a.toNat ||| b.toNat = 0 := by rw [← UInt8.toNat_or, h]; rfl
    have := Nat.or_eq_zero_iff.1 h'
    exact ⟨UInt8.toNat_inj.1 this.1, UInt8.toNat_inj.1 this.2⟩
  · rintro ⟨rfl, rfl⟩; rfl
theorem orAll_zero (l : List UInt8) : orAll l = 0 ↔ l = List.replicate l.length 0 := by
  have key : ∀ (l : List UInt8) (a : UInt8), l.foldl (· ||| ·) a = 0 ↔ a = 0 ∧ l = List.replicate l.length 0 := by
    intro l
    induction l with
    | nil => intro a; simp
    | cons x l ih =>
      intro a
      rw [List.foldl_cons, ih, or_zero, List.length_cons, List.replicate_succ, List.cons.injEq]
      constructor
      · rintro ⟨⟨h1, h2⟩, h3⟩; exact ⟨h1, h2, h3⟩
      · rintro ⟨h1, h2, h3⟩; exact ⟨⟨h1, h2⟩, h3⟩
  rw [orAll, key]; simp
/-- an answer: a bool, bytes, an error's number -/
def AnsB (b : Bool) (ans : List UInt8) (err : Int) (w : World) (v : Value) (w' : World) : Prop :=
  ∃ e A' c', v = .tuple #[.bool b, .slice A' ans.length c', i64 err] ∧ OwnSl e A' c' 5 (ans.map u8) ∧ St w [] [e] w'
theorem AnsB.none {b : Bool} {err : Int} {w w' : World} {H : List Ent} (s : St w [] H w') : AnsB b [] err w (.tuple #[.bool b, .slice none 0 0, i64 err]) w' := ⟨_, _, _, rfl, OwnSl.nil _, s.drop.none⟩
def repParsed (c : Cfg) (l : List UInt8) : Bool × List UInt8 × Int :=
  if c.good then (if (l.length : Int) = 1 + c.message then (match l with
    | [] => (false, [], 203)
    | x :: r => if 1 < x.toNat ∨ (x.toNat = 0 ∧ (orAll r).toNat ≠ 0) then (false, [], 203) else (decide ((x.toNat : Int) = 1), r, 0)) else (false, [], 4)) else (false, [], 200)
set_option maxHeartbeats 1000000 in
theorem parseReply (w : World) (c : Cfg) (A : Option Addr) (ca : Nat) (l : List UInt8) (hA : Rd w A (l.map u8)) (hca : l.length ≤ ca) (hm : -9223372036854775808 ≤ c.message ∧ c.message ≤ 9223372036854775807) :
    Calls Tryd.prog 23 #[c.val, .slice A l.length ca] w (Ret (AnsB (repParsed c l).1 (repParsed c l).2.1 (repParsed c l).2.2 w)) := by
  refine enter (args := [_, _]) Tryd.func23 rfl rfl rfl ?_
  repeat (first | refine st ?_ | (refine sa ?_; intro _))
  apply VL_loadW (k := 0); exact .none; exact rfl; exact rfl; exact rfl; exact rfl; exact rfl
  by_cases hg : c.good
  · have hg' := hg
    unfold Cfg.good at hg'
    repeat (first | refine st ?_ | (refine sa ?_; intro _))
    apply VL_call; exact .none; exact rfl; exact rfl
    · intro w1 s; exact fits w1 c A l.length ca (1 + c.message) hm
    rintro w1 v w2 s ⟨rfl, t⟩
    refine ⟨_, _, s.comp t, ?_⟩
    unfold repParsed fitsE
    rw [if_pos hg, if_pos hg]
    by_cases h : (l.length : Int) = 1 + c.message
    · rw [if_pos h, if_pos h]
      obtain ⟨x, r, rfl⟩ : ∃ x r, l = x :: r := by
        cases l with
        | nil => simp at h; omega
        | cons x r => exact ⟨x, r, rfl⟩
      simp only [List.length_cons] at h hca
      have hsplit : Rd w A ([u8 x] ++ r.map u8) := by simpa using hA
      have hr := hsplit.split (c := ca) (k := 1) rfl (by simp; omega)
      repeat (first | refine st ?_ | (refine sa ?_; intro _))
      apply VL_slice_lo' (i' := 1); exact .none; exact rfl; exact rfl; exact rfl; (simp); exact rfl
      have hr' := hr
      generalize (if ca = 1 then A else A.map (·.add (1 * 1))) = A1 at hr ⊢
      have elen : (x :: r).length - 1 = r.length := by simp
      rw [elen]
      repeat (first | refine st ?_ | (refine sa ?_; intro _))
      refine VC_loop ⟨fun k : Nat => k ≤ r.length, fun k => [(1, .slice A (r.length + 1) ca), (8, u8 (orAll (r.take k))), (21, .slice A1 r.length (ca - 1)), (22, i64 (r.length : Int)), (23, i64 (k : Int))], fun _ => [], fun _ => []⟩ (fun k => r.length - k) 0 (by simp) ⟨rfl, rfl, rfl, rfl, rfl, trivial⟩ (fun _ s => s.drop) ?_
      rintro k hk
      dsimp only at hk ⊢
      by_cases hkn : k < r.length
      · have hk1 : ((k : Nat) : Int) < (r.length : Int) := by omega
        repeat (first | refine st ?_ | (refine sa ?_; intro _))
        refine VE_fam (k + 1) (by (try dsimp only); omega) (by (try dsimp only); omega) ⟨rfl, ?_, rfl, rfl, rfl, trivial⟩ (fun _ s => s)
        rw [orAll_take hkn]; rfl
      · have hk' : k = r.length := by omega
        subst hk'
        rw [List.take_length]
        clear hsplit
        repeat (first | refine st ?_ | (refine sa ?_; intro _))
        apply VL_load; exact .none; exact rfl; exact rfl; exact fun w s => s.ocell (hA.cell (i := 0) rfl); exact rfl
        by_cases h1 : (1 : Int) < (x.toNat : Int)
        · rw [if_pos (.inl (by omega))]
          repeat (first | refine st ?_ | (refine sa ?_; intro _))
          exact VE_ret3 rfl rfl rfl rfl (fun w s => ⟨_, rfl, AnsB.none s⟩)
        · by_cases h0 : (x.toNat : Int) = 0
          · by_cases ho : ((orAll r).toNat : Int) ≠ 0
            · rw [if_pos (.inr ⟨by omega, by omega⟩)]
              repeat (first | refine st ?_ | (refine sa ?_; intro _))
              apply VL_load; exact .yes rfl rfl; exact rfl; exact rfl; exact fun w s => s.ocell (hA.cell (i := 0) rfl); exact rfl
              repeat (first | refine st ?_ | (refine sa ?_; intro _))
              exact VE_ret3 rfl rfl rfl rfl (fun w s => ⟨_, rfl, AnsB.none s⟩)
            · rw [if_neg (by omega)]
              repeat (first | refine st ?_ | (refine sa ?_; intro _))
              apply VL_load; exact .yes rfl rfl; exact rfl; exact rfl; exact fun w s => s.ocell (hA.cell (i := 0) rfl); exact rfl
              repeat (first | refine st ?_ | (refine sa ?_; intro _))
              refine VC_draw (S := fun w' => St w [] [] w') mixed (fun _ s => s.drop) ?_
              refine tk 0 ?_
              refine tk 1 ?_
              refine tk (v := u8 x) 2 ?_ (hS := fun w1 h1 => ⟨_, h1, Y_load rfl rfl (fun w2 s2 => s2.ocell (hA.cell (i := 0) rfl))⟩)
              refine tk 3 ?_
              refine tk 4 ?_
              refine tk 5 ?_ (hS := fun w1 h1 => ⟨_, h1, Y_slice_lo' (i' := 1) rfl rfl rfl (by omega)⟩)
              apply VA_step 6; exact rfl; kernel_rfl
              apply VL_call; exact .none; exact rfl; exact rfl
              · intro w1 s; exact twin w1 _ (ca - 1) r (s.rd hr') (by omega)
              rintro w1 v w2 s ⟨e2, A2, c2, rfl, ho, t⟩
              refine ⟨_, _, s.comp0 t, VL_nil (VA_back (fun w s => s.drop) ?_)⟩
              refine tk 7 ?_
              refine tk 8 ?_
              refine tk 9 ?_
              refine VA_done (by kernel_rfl) ?_
              repeat (first | refine st ?_ | (refine sa ?_; intro _))
              exact VE_ret3 rfl rfl rfl rfl (fun w s => ⟨_, rfl, e2, A2, c2, rfl, ho, s⟩)
          · rw [if_neg (by omega)]
            repeat (first | refine st ?_ | (refine sa ?_; intro _))
            apply VL_load; exact .yes rfl rfl; exact rfl; exact rfl; exact fun w s => s.ocell (hA.cell (i := 0) rfl); exact rfl
            repeat (first | refine st ?_ | (refine sa ?_; intro _))
            refine VC_draw (S := fun w' => St w [] [] w') mixed (fun _ s => s.drop) ?_
            refine tk 0 ?_
            refine tk 1 ?_
            refine tk (v := u8 x) 2 ?_ (hS := fun w1 h1 => ⟨_, h1, Y_load rfl rfl (fun w2 s2 => s2.ocell (hA.cell (i := 0) rfl))⟩)
            refine tk 3 ?_
            refine tk 4 ?_
            refine tk 5 ?_ (hS := fun w1 h1 => ⟨_, h1, Y_slice_lo' (i' := 1) rfl rfl rfl (by omega)⟩)
            apply VA_step 6; exact rfl; kernel_rfl
            apply VL_call; exact .none; exact rfl; exact rfl
            · intro w1 s; exact twin w1 _ (ca - 1) r (s.rd hr') (by omega)
            rintro w1 v w2 s ⟨e2, A2, c2, rfl, ho, t⟩
            refine ⟨_, _, s.comp0 t, VL_nil (VA_back (fun w s => s.drop) ?_)⟩
            refine tk 7 ?_
            refine tk 8 ?_
            refine tk 9 ?_
            refine VA_done (by kernel_rfl) ?_
            repeat (first | refine st ?_ | (refine sa ?_; intro _))
            exact VE_ret3 rfl rfl rfl rfl (fun w s => ⟨_, rfl, e2, A2, c2, rfl, ho, s⟩)
    · rw [if_neg h, if_neg h]
      repeat (first | refine st ?_ | (refine sa ?_; intro _))
      exact VE_ret3 rfl rfl rfl rfl (fun w s => ⟨_, rfl, AnsB.none s⟩)
  · repeat (first | refine st ?_ | (refine sa ?_; intro _))
    apply VL_bin; exact .none; exact rfl; exact rfl; exact b_addw; exact rfl
    apply VL_call; exact .none; exact rfl; exact rfl
    · intro w1 s; exact fits w1 c A l.length ca _ hm
    rintro w1 v w2 s ⟨rfl, t⟩
    refine ⟨_, _, s.comp t, ?_⟩
    unfold repParsed fitsE
    rw [if_neg hg, if_neg hg]
    repeat (first | refine st ?_ | (refine sa ?_; intro _))
    exact VE_ret3 rfl rfl rfl rfl (fun w s => ⟨_, rfl, AnsB.none s⟩)
end Go.Proofs.YtpboahlpgfglkaaDoor.X
