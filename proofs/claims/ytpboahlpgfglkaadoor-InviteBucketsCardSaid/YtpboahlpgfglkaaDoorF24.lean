/-
  Contract: frames read.
-/
import Derived.Test.YtpboahlpgfglkaaDoorF23
namespace Go.Proofs.YtpboahlpgfglkaaDoor.X
open Go Go.RowKit
set_option linter.unusedVariables false
set_option linter.unusedSimpArgs false
set_option maxRecDepth 100000

theorem readerErr (w : World) (b : Nat) (A : Option Addr) (m c : Nat) (e : Int) (hb : w.heap[b]? = some (rdr A m c e)) :
    Calls Tryd.prog 71 #[.pointer (some ⟨b, 0, none⟩)] w (Ret fun v w' => v = i64 e ∧ St w [] [] w') := by
  refine enterM (args := [_]) (M := [(b, rdr A m c e)]) Tryd.func71 rfl rfl rfl (St.one hb) ?_
  repeat (first | refine st ?_ | (refine sa ?_; intro _))
  refine VE_ret1 rfl rfl (fun w' s => ⟨_, rfl, rfl, ?_⟩)
  refine ⟨s.os, s.tape, s.output, s.size, fun c hc _ => ?_, fun k c q h => by simp at h, fun i j c q q' hi hj => by simp at hi, s.new, s.nd⟩
  by_cases e1 : c = b
  · subst e1; rw [(s.mold 0 c _ rfl).2, hb]
  · exact s.old c hc (by simpa using e1)

/-- what the reader has left of a list -/
def Tail (d : Nat) (l : List UInt8) (A : Option Addr) (j : Nat) : Prop := (∀ a, A = some a → a.block = d) ∧ (l.length ≤ j ∨ A = some ⟨d, j, none⟩)
theorem add_block (a : Addr) (k : Nat) : (a.add k).block = a.block := by unfold Addr.add; split <;> (try split) <;> rfl
theorem Tail.rd {w0 w : World} {H : List Ent} {d p j : Nat} {l : List UInt8} {A : Option Addr} {T : Nat} (h : Tail d l A j) (s : St w0 [] H w) (hp : H[p]? = some (Blk d (l.map u8) T)) : Rd w A ((l.drop j).map u8) := by
  rcases h.2 with h | rfl
  · rw [List.drop_eq_nil_of_le h]; exact .inl rfl
  · refine .inr ⟨d, j, rfl, s.atH hp (fun i v hi => ?_)⟩
    simp only [List.getElem?_map, List.getElem?_drop] at hi ⊢; exact hi
theorem Tail.sub {d j n c : Nat} {l : List UInt8} {A A' : Option Addr} (h : Tail d l A j) (hc : c = l.length - j) (hn : n ≤ c) (hs : Sub A A' n (c - n)) : Tail d l A' (j + n) := by
  rcases hs with ⟨h0, rfl⟩ | rfl
  · exact ⟨h.1, .inl (by omega)⟩
  · refine ⟨fun a ha => ?_, ?_⟩
    · cases A with
      | none => simp at ha
      | some a0 => simp at ha; subst ha; rw [add_block]; exact h.1 a0 rfl
    · rcases h.2 with h' | rfl
      · exact .inl (by omega)
      · exact .inr (by simp [add_norm])

def frameN (l : List UInt8) : Nat := leN ((l.drop 4).take 4)
def frameOk (l : List UInt8) : Prop := 8 ≤ l.length ∧ 1 ≤ leN (l.take 4) ∧ leN (l.take 4) < 64 ∧ frameN l ≤ 256 ∧ l.length = 8 + 88 * frameN l
instance (l : List UInt8) : Decidable (frameOk l) := by unfold frameOk; infer_instance
def frameRows (l : List UInt8) (n : Nat) : List (List UInt8) := (List.range n).map fun i => (l.drop (8 + 88 * i)).take 88
theorem frameRows_succ (l : List UInt8) (n : Nat) : frameRows l (n + 1) = frameRows l n ++ [(l.drop (8 + 88 * n)).take 88] := by simp [frameRows, List.range_succ]
theorem frameRows_length (l : List UInt8) (n : Nat) : (frameRows l n).length = n := by simp [frameRows]
def frameParsed (l : List UInt8) : Int × List (List UInt8) × Int := if frameOk l then ((leN (l.take 4) : Int), frameRows l (frameN l), 0) else (0, [], 202)
/-- an answer: a number, lists, an error's number -/
def AnsR (n : Int) (ls : List (List UInt8)) (err : Int) (w : World) (v : Value) (w' : World) : Prop :=
  ∃ e es A' c' rs, v = .tuple #[i64 n, .slice A' ls.length c', i64 err] ∧ NewRows e es A' c' rs ls ∧ St w [] (e :: es) w'
theorem AnsR.none {n err : Int} {w w' : World} {H : List Ent} (s : St w [] H w') : AnsR n [] err w (.tuple #[i64 n, .slice none 0 0, i64 err]) w' := ⟨_, _, _, _, _, rfl, NewRows.nil, s.drop.none⟩

set_option maxHeartbeats 2000000 in
theorem parseFrame (w : World) (A : Option Addr) (ca : Nat) (l : List UInt8) (hA : Rd w A (l.map u8)) (hl : l.length ≤ 140737488355328) :
    Calls Tryd.prog 31 #[.slice A l.length ca] w (Ret (AnsR (frameParsed l).1 (frameParsed l).2.1 (frameParsed l).2.2 w)) := by
  refine enter (args := [_]) Tryd.func31 rfl rfl rfl ?_
  repeat (first | refine st ?_ | (refine sa ?_; intro _))
  apply VL_call; exact .none; exact rfl; exact rfl
  · intro w1 s; exact newReader w1 A ca l (s.rd hA) hl
  rintro w1 v w2 s ⟨b, d, rfl, t⟩
  refine ⟨_, _, s.comp0 t, ?_⟩
  repeat (first | refine st ?_ | (refine sa ?_; intro _))
  have hbd : ∀ w1 o, St w [] [Blk d (l.map u8) 5, some (b, o)] w1 → d ≠ b := fun w1 o s e => by subst e; have := s.nd 0 1 _ _ _ rfl rfl; omega
  by_cases h4 : 4 ≤ l.length
  rotate_left
  · have hno : ¬ frameOk l := fun h => h4 (by have := h.1; omega)
    unfold frameParsed
    rw [if_neg hno]
    apply VL_call; exact .none; exact rfl; exact rfl
    · intro w1 s; exact u32_none w1 b (some ⟨d, 0, none⟩) l.length l.length 0 (s.new 1 b _ rfl).2 (.inr (by omega))
    rintro w1 v w2 s ⟨rfl, e1, he1, t⟩
    refine ⟨_, _, s.comp1 (k := 1) rfl t, ?_⟩
    repeat (first | refine st ?_ | (refine sa ?_; intro _))
    apply VL_call; exact .none; exact rfl; exact rfl
    · intro w1 s; exact u32_none w1 b (some ⟨d, 0, none⟩) l.length l.length e1 (s.new 1 b _ rfl).2 (.inl he1)
    rintro w1 v w2 s ⟨rfl, e2, he2, t⟩
    refine ⟨_, _, s.comp1 (k := 1) rfl t, ?_⟩
    repeat (first | refine st ?_ | (refine sa ?_; intro _))
    apply VL_call; exact .none; exact rfl; exact rfl
    · intro w1 s; exact readerErr w1 b (some ⟨d, 0, none⟩) l.length l.length e2 (s.new 1 b _ rfl).2
    rintro w1 v w2 s ⟨rfl, t⟩
    refine ⟨_, _, s.comp t, ?_⟩
    repeat (first | refine st ?_ | (refine sa ?_; intro _))
    exact VE_ret3 rfl rfl rfl rfl (fun w s => ⟨_, rfl, AnsR.none s⟩)
  have hb4 : leN (l.take 4) < 4294967296 := by
    have := leN_lt (l.take 4)
    rw [List.length_take, Nat.min_eq_left (by omega)] at this
    exact this
  have hb32 : (UInt32.ofNat (leN (l.take 4))).toNat = leN (l.take 4) := by rw [UInt32.toNat_ofNat', Nat.mod_eq_of_lt hb4]
  have hn4 : frameN l < 4294967296 := by
    have := leN_lt ((l.drop 4).take 4)
    have h2 : ((l.drop 4).take 4).length ≤ 4 := by simp; omega
    exact Nat.lt_of_lt_of_le this (Nat.pow_le_pow_right (by omega) (show 8 * ((l.drop 4).take 4).length ≤ 32 by omega))
  have hn32 : (UInt32.ofNat (frameN l)).toNat = frameN l := by rw [UInt32.toNat_ofNat', Nat.mod_eq_of_lt hn4]
  have t0 : Tail d l (some ⟨d, 0, none⟩) 0 := ⟨fun a ha => by cases ha; rfl, .inr rfl⟩
  apply VL_call; exact .none; exact rfl; exact rfl
  · intro w1 s; exact u32_ok w1 b (some ⟨d, 0, none⟩) l.length l (s.new 1 b _ rfl).2 (s.rdH (k := 0) rfl) (fun a ha => by cases ha; exact hbd w1 _ s) h4 (Nat.le_refl _) (by omega)
  rintro w1 v w2 s ⟨rfl, A1, hA1, t⟩
  refine ⟨_, _, s.comp1 (k := 1) rfl t, ?_⟩
  have t1 := t0.sub (n := 4) (c := l.length) (by omega) h4 hA1
  rw [Nat.zero_add] at t1
  repeat (first | refine st ?_ | (refine sa ?_; intro _))
  by_cases h8 : 8 ≤ l.length
  rotate_left
  · have hno : ¬ frameOk l := fun h => h8 h.1
    unfold frameParsed
    rw [if_neg hno]
    apply VL_call; exact .none; exact rfl; exact rfl
    · intro w1 s; exact u32_none w1 b A1 (l.drop 4).length (l.length - 4) 0 (s.new 1 b _ rfl).2 (.inr (by simp; omega))
    rintro w1 v w2 s ⟨rfl, e2, he2, t⟩
    refine ⟨_, _, s.comp1 (k := 1) rfl t, ?_⟩
    repeat (first | refine st ?_ | (refine sa ?_; intro _))
    apply VL_call; exact .none; exact rfl; exact rfl
    · intro w1 s; exact readerErr w1 b A1 (l.drop 4).length (l.length - 4) e2 (s.new 1 b _ rfl).2
    rintro w1 v w2 s ⟨rfl, t⟩
    refine ⟨_, _, s.comp t, ?_⟩
    repeat (first | refine st ?_ | (refine sa ?_; intro _))
    exact VE_ret3 rfl rfl rfl rfl (fun w s => ⟨_, rfl, AnsR.none s⟩)
  apply VL_call; exact .none; exact rfl; exact rfl
  · intro w1 s; exact u32_ok w1 b A1 (l.length - 4) (l.drop 4) (s.new 1 b _ rfl).2 (t1.rd s (p := 0) rfl) (fun a ha => by rw [t1.1 a ha]; exact hbd w1 _ s) (by simp; omega) (by simp) (by omega)
  rintro w1 v w2 s ⟨rfl, A2, hA2, t⟩
  refine ⟨_, _, s.comp1 (k := 1) rfl t, ?_⟩
  have t2 := t1.sub (n := 4) (c := l.length - 4) rfl (by omega) hA2
  rw [show 4 + 4 = 8 from rfl] at t2
  have el : ((l.drop 4).drop 4).length = l.length - 8 := by simp
  rw [el, show l.length - 4 - 4 = l.length - 8 by omega]
  have en : leN ((l.drop 4).take 4) = frameN l := rfl
  rw [en]
  obtain ⟨bu, hbu⟩ : ∃ bu, bu = leN (l.take 4) := ⟨_, rfl⟩
  obtain ⟨nn, hnn⟩ : ∃ nn, nn = frameN l := ⟨_, rfl⟩
  have hdef : frameOk l ↔ (1 ≤ bu ∧ bu < 64 ∧ nn ≤ 256 ∧ l.length = 8 + 88 * nn) := by
    unfold frameOk; rw [← hbu, ← hnn]; exact ⟨fun h => h.2, fun h => ⟨h8, h⟩⟩
  rw [← hbu] at hb4 hb32 ⊢
  rw [← hnn] at hn4 hn32 ⊢
  repeat (first | refine st ?_ | (refine sa ?_; intro _))
  apply VL_call; exact .none; exact rfl; exact rfl
  · intro w1 s; exact readerErr w1 b A2 (l.length - 8) (l.length - 8) 0 (s.new 1 b _ rfl).2
  rintro w1 v w2 s ⟨rfl, t⟩
  refine ⟨_, _, s.comp t, ?_⟩
  unfold frameParsed
  rw [← hbu, ← hnn]
  by_cases g1 : 1 ≤ bu
  rotate_left
  · rw [if_neg (by rw [hdef]; omega)]
    repeat (first | refine st ?_ | (refine sa ?_; intro _))
    exact VE_ret3 rfl rfl rfl rfl (fun w s => ⟨_, rfl, AnsR.none s⟩)
  by_cases g2 : bu < 64
  rotate_left
  · rw [if_neg (by rw [hdef]; omega)]
    repeat (first | refine st ?_ | (refine sa ?_; intro _))
    exact VE_ret3 rfl rfl rfl rfl (fun w s => ⟨_, rfl, AnsR.none s⟩)
  by_cases g3 : nn ≤ 256
  rotate_left
  · rw [if_neg (by rw [hdef]; omega)]
    repeat (first | refine st ?_ | (refine sa ?_; intro _))
    exact VE_ret3 rfl rfl rfl rfl (fun w s => ⟨_, rfl, AnsR.none s⟩)
  by_cases g4 : l.length = 8 + 88 * nn
  rotate_left
  · rw [if_neg (by rw [hdef]; omega)]
    repeat (first | refine st ?_ | (refine sa ?_; intro _))
    exact VE_ret3 rfl rfl rfl rfl (fun w s => ⟨_, rfl, AnsR.none s⟩)
  rw [if_pos (hdef.2 ⟨g1, g2, g3, g4⟩)]
  repeat (first | refine st ?_ | (refine sa ?_; intro _))
  refine VC_loop ⟨fun i : Nat × Option Addr × Ent × Option Addr × Nat × List Ent × List Row => i.1 ≤ nn ∧ Tail d l i.2.1 (8 + 88 * i.1) ∧ NewRows i.2.2.1 i.2.2.2.2.2.1 i.2.2.2.1 i.2.2.2.2.1 i.2.2.2.2.2.2 (frameRows l i.1),
    fun i => [(5, .pointer (some ⟨b, 0, none⟩)), (6, u32 (UInt32.ofNat bu)), (8, .slice i.2.2.2.1 i.1 i.2.2.2.2.1), (39, u32 (UInt32.ofNat nn)), (40, .int .u32 (i.1 : Int))], fun _ => [],
    fun i => Blk d (l.map u8) 5 :: some (b, rdr i.2.1 (l.length - (8 + 88 * i.1)) (l.length - (8 + 88 * i.1)) 0) :: i.2.2.1 :: i.2.2.2.2.2.1⟩
    (fun i => nn - i.1) (0, A2, none, none, 0, [], []) ⟨by simp, t2, NewRows.nil⟩ ⟨rfl, rfl, rfl, rfl, rfl, trivial⟩ (fun _ s => s.none) ?_
  rintro ⟨k, A3, e, A', c', es, rs⟩ ⟨hk, t3, ho⟩
  dsimp only at hk t3 ho ⊢
  have hrk : rs.length = k := by rw [ho.len, frameRows_length]
  by_cases hkn : k < nn
  · repeat (first | refine st ?_ | (refine sa ?_; intro _))
    apply VL_call; exact .none; exact rfl; exact rfl
    · intro w1 s; exact bytes_ok w1 b A3 (l.length - (8 + 88 * k)) (l.length - (8 + 88 * k)) 88 (l.drop (8 + 88 * k)) (s.new 1 b _ rfl).2 (t3.rd s (p := 0) rfl) (fun a ha => by rw [t3.1 a ha]; intro h; subst h; have := s.nd 0 1 _ _ _ rfl rfl; omega) (by simp) (by omega) (Nat.le_refl _) (by omega)
    rintro w1 v w2 s ⟨e2, A4, c2, rfl, h2, A5, hA5, t⟩
    refine ⟨_, _, s.comp1 (k := 1) rfl t, ?_⟩
    have t5 := t3.sub (n := 88) rfl (by omega) hA5
    apply VL_buildSlice1; exact .none; exact rfl; exact rfl; exact rfl; exact rfl; exact rfl; exact rfl; exact rfl
    intro bt
    have h88 : ((l.drop (8 + 88 * k)).take 88).length = 88 := by simp; omega
    refine VL_append (vs := rs.map Row.val) (news := [.slice A4 88 c2]) (p := 2) (r := k + 1) .none rfl rfl rfl rfl ho.1 (by simp [hrk]) (all_row _) rfl (fun w s => s.rdH (get_last _ _)) rfl rfl (by simp [hrk]) (by omega) rfl (fun e3 A6 c3 h3 => ?_)
    repeat (first | refine st ?_ | (refine sa ?_; intro _))
    apply VL_bin; exact .none; exact rfl; exact rfl; exact b_addw; exact rfl
    repeat (first | refine st ?_ | (refine sa ?_; intro _))
    have hw : IntKind.u32.wrap ((k : Int) + 1) = ((k + 1 : Nat) : Int) := by rw [wrap_u32]; omega
    have ej : 8 + 88 * (k + 1) = 8 + 88 * k + 88 := by omega
    have el2 : l.length - (8 + 88 * k) - 88 = l.length - (8 + 88 * (k + 1)) := by omega
    refine VE_fam (k + 1, A5, e3, A6, c3, es ++ [e2], rs ++ [⟨A4, c2, (l.drop (8 + 88 * k)).take 88⟩]) ⟨by (try dsimp only); omega, ?_, ?_, ?_, ?_⟩ (by (try dsimp only); omega) ⟨rfl, rfl, rfl, rfl, ?_, trivial⟩ (fun _ s => ?_)
    · dsimp only; rw [ej]; exact t5
    · dsimp only; rw [List.map_append]; simp only [List.map_cons, List.map_nil, Row.val, h88]; exact h3
    · exact ho.2.1.snoc h2
    · dsimp only; rw [List.map_append, ho.2.2, frameRows_succ]; rfl
    · dsimp only; rw [← hw]; rfl
    · dsimp only
      rw [← el2]
      exact s.perm (by simp)
  · have hk' : k = nn := by omega
    subst hk'
    repeat (first | refine st ?_ | (refine sa ?_; intro _))
    refine VE_ret3 rfl rfl rfl rfl (fun w s => ⟨_, rfl, e, es, A', c', rs, ?_, ho, s.perm (by simp)⟩)
    rw [frameRows_length, hb32]
end Go.Proofs.YtpboahlpgfglkaaDoor.X
