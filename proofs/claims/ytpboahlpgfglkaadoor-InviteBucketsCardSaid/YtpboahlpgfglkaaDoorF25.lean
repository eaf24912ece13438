/-
  What a talk round's calls are handed; configs compared; what is laid is read again (plain laws).
-/
import Derived.Test.YtpboahlpgfglkaaDoorX11
import Derived.Test.YtpboahlpgfglkaaDoorF5
import Derived.Test.YtpboahlpgfglkaaDoorF24
namespace Go.Proofs.YtpboahlpgfglkaaDoor.X
open Go Go.RowKit
set_option linter.unusedVariables false
set_option linter.unusedSimpArgs false
set_option maxRecDepth 100000

theorem cfgSame (a b c d e f : Int) (w : World) : (Op.equal 29 (.agg #[i64 a, i64 b, i64 c, i64 d, i64 e, i64 f]) (.agg #[i64 a, i64 b, i64 c, i64 d, i64 e, i64 f])).run Tryd.prog w = .ok true w := by
  show (Op.equalIn (9998 + 1 + 1) _ _ _).run _ _ = _
  have hu : Tryd.prog.underlying 29 = some (.struct (Tryd.prog.fieldsOf 29)) := by kernel_rfl
  rw [run_equalIn_struct w _ _ _ _ hu (by kernel_rfl)]
  have hf : (Tryd.prog.fieldsOf 29).toList.map (fun f => (f.name == "_", f.type, f.offset)) = [(false, 3, 0), (false, 3, 1), (false, 3, 2), (false, 3, 3), (false, 3, 4), (false, 3, 5)] := by kernel_rfl
  generalize (Tryd.prog.fieldsOf 29).toList = fs at hf
  have hp : ∀ (k : Nat) (x : Int) (cs : Array Value), cs[k]? = some (i64 x) → (part 3 cs k).run Tryd.prog w = .ok (i64 x) w := by
    intro k x cs hk
    simp [part, TI.r_agg (P := Tryd.prog) (t := 3), hk]
  have he : ∀ x : Int, (Op.equalIn (9998 + 1) 3 (i64 x) (i64 x)).run Tryd.prog w = .ok true w := fun x => by
    rw [eq_int (P := Tryd.prog) (d := 9998) (TI.und (P := Tryd.prog) (t := 3)) w]; simp
  rcases fs with _ | ⟨f0, _ | ⟨f1, _ | ⟨f2, _ | ⟨f3, _ | ⟨f4, _ | ⟨f5, _ | ⟨f6, fs⟩⟩⟩⟩⟩⟩⟩ <;> simp at hf
  obtain ⟨⟨n0, t0, o0⟩, ⟨n1, t1, o1⟩, ⟨n2, t2, o2⟩, ⟨n3, t3, o3⟩, ⟨n4, t4, o4⟩, ⟨n5, t5, o5⟩⟩ := hf
  simp only [Op.eqFields, ne_eq, n0, n1, n2, n3, n4, n5, not_false_eq_true, if_true, t0, t1, t2, t3, t4, t5, o0, o1, o2, o3, o4, o5, Sem.run_bind,
    hp 0 a #[i64 a, i64 b, i64 c, i64 d, i64 e, i64 f] rfl, hp 1 b #[i64 a, i64 b, i64 c, i64 d, i64 e, i64 f] rfl, hp 2 c #[i64 a, i64 b, i64 c, i64 d, i64 e, i64 f] rfl, hp 3 d #[i64 a, i64 b, i64 c, i64 d, i64 e, i64 f] rfl, hp 4 e #[i64 a, i64 b, i64 c, i64 d, i64 e, i64 f] rfl, hp 5 f #[i64 a, i64 b, i64 c, i64 d, i64 e, i64 f] rfl, he, Result.andThen_ok, Bool.not_true, Bool.false_eq_true, if_false, Sem.run_pure]
theorem cfgGuard : Tryd.prog.eqGuardType Tryd.prog.depth 29 = false := by kernel_rfl
theorem dropGuard : Tryd.prog.eqGuardType Tryd.prog.depth 31 = false := by kernel_rfl

/-! ### what is handed in -/
structure TalkA where
  c : Cfg
  d : List UInt8
  th : Bool
  m : Row
  b : Row
def Cfg.cells (c : Cfg) : List Value := [i64 c.batch, i64 c.message, i64 c.buckets, i64 c.text, i64 c.window, i64 c.workers]
abbrev TalkA.cells (x : TalkA) : List Value := x.c.cells ++ (x.d.map u8 ++ [.bool x.th, x.m.val, x.b.val])
def TalkA.val (x : TalkA) : Value := .agg x.cells.toArray
structure TalkA.ok (w : World) (x : TalkA) : Prop where
  d16 : x.d.length = 16
  m : Rd w x.m.A (x.m.l.map u8)
  b : Rd w x.b.A (x.b.l.map u8)
  mc : x.m.l.length ≤ x.m.c
  bc : x.b.l.length ≤ x.b.c
  ml : x.m.l.length ≤ 140737488351232
  bl : x.b.l.length ≤ 140737488351232
  msg : -9223372036854775808 ≤ x.c.message ∧ x.c.message ≤ 9223372036854775807
theorem TalkA.cellsC (x : TalkA) : ∀ (j : Nat) (v : Value), x.c.cells[j]? = some v → x.cells[0 + 0 + j]? = some v := by
  intro j v h
  have hlt : j < x.c.cells.length := by
    rcases Nat.lt_or_ge j x.c.cells.length with h' | h'
    · exact h'
    · rw [List.getElem?_eq_none h'] at h; simp at h
  rw [Nat.zero_add, TalkA.cells, List.getElem?_append_left hlt]; exact h
theorem TalkA.cellsD (x : TalkA) (hd : x.d.length = 16) : ∀ (j : Nat) (v : Value), (x.d.map u8)[j]? = some v → x.cells[0 + 6 + j]? = some v := by
  intro j v h
  have hlt : j < (x.d.map u8).length := by
    rcases Nat.lt_or_ge j (x.d.map u8).length with h' | h'
    · exact h'
    · rw [List.getElem?_eq_none h'] at h; simp at h
  have h6 : x.c.cells.length = 6 := rfl
  rw [TalkA.cells, List.getElem?_append_right (by rw [h6]; omega), h6, show 0 + 6 + j - 6 = j by omega, List.getElem?_append_left hlt]; exact h
theorem TalkA.cells3 (x : TalkA) (hd : x.d.length = 16) (k : Nat) : x.cells[22 + k]? = [.bool x.th, x.m.val, x.b.val][k]? := by
  have h6 : x.c.cells.length = 6 := rfl
  rw [TalkA.cells, List.getElem?_append_right (by rw [h6]; omega), h6, List.getElem?_append_right (by simp [hd]; omega)]
  simp only [List.length_map, hd]
  rw [show 22 + k - 6 - 16 = k by omega]

/-! ### there and back -/
theorem leN_le (v : Nat) : ∀ n, leN (le v n) = v % 2 ^ (8 * n)
  | 0 => by simp [le, leN, Nat.mod_one]
  | n + 1 => by
    have e : le v (n + 1) = le v n ++ [UInt8.ofNat (v >>> (8 * n))] := by simp [le, List.range_succ]
    rw [e, leN_snoc, leN_le v n, le_length, UInt8.toNat_ofNat', Nat.shiftRight_eq_div_pow, Nat.mul_add, Nat.pow_add, Nat.mod_mul]
theorem leN_le4 (v : Nat) (h : v < 4294967296) : leN (le v 4) = v := by rw [leN_le]; exact Nat.mod_eq_of_lt (by omega)
theorem four {l : List UInt8} (h : l.length = 4) : ∃ a b c d, l = [a, b, c, d] := by
  rcases l with _ | ⟨a, _ | ⟨b, _ | ⟨c, _ | ⟨d, _ | ⟨e, l⟩⟩⟩⟩⟩ <;> simp at h
  exact ⟨a, b, c, d, rfl⟩
theorem cfg_back (c : Cfg) (hg : c.good) : parseCfg c.bytes = (c, 0) := by
  have hg' := hg
  obtain ⟨a, b, k, d, e, f⟩ := c
  simp only [Cfg.good] at hg'
  obtain ⟨⟨h1, h1'⟩, ⟨h2, h2'⟩, ⟨h3, h3'⟩, ⟨h4, h4', h4''⟩, ⟨h5, h5'⟩, ⟨h6, h6'⟩⟩ := hg'
  have key : ∀ (n : Int), 0 ≤ n → n ≤ 5000 → (leN (le n.toNat 4) : Int) = n := fun n h h' => by rw [leN_le4 _ (by omega)]; omega
  have l4 : ∀ n : Nat, (le n 4).length = 4 := fun n => le_length n 4
  have e0 : cfgRead (Cfg.bytes ⟨a, b, k, d, e, f⟩) = ⟨a, b, k, d, e, f⟩ := by
    unfold cfgRead leAt Cfg.bytes
    dsimp only
    generalize ha : le a.toNat 4 = la
    generalize hb : le b.toNat 4 = lb
    generalize hk : le k.toNat 4 = lk
    generalize hd : le d.toNat 4 = ld
    generalize he : le e.toNat 4 = le'
    generalize hf : le f.toNat 4 = lf
    have la4 : la.length = 4 := by rw [← ha]; exact l4 _
    have lb4 : lb.length = 4 := by rw [← hb]; exact l4 _
    have lk4 : lk.length = 4 := by rw [← hk]; exact l4 _
    have ld4 : ld.length = 4 := by rw [← hd]; exact l4 _
    have le4 : le'.length = 4 := by rw [← he]; exact l4 _
    have lf4 : lf.length = 4 := by rw [← hf]; exact l4 _
    obtain ⟨a0, a1, a2, a3, rfl⟩ := four la4
    obtain ⟨b0, b1, b2, b3, rfl⟩ := four lb4
    obtain ⟨k0, k1, k2, k3, rfl⟩ := four lk4
    obtain ⟨d0, d1, d2, d3, rfl⟩ := four ld4
    obtain ⟨e0, e1, e2, e3, rfl⟩ := four le4
    obtain ⟨f0, f1, f2, f3, rfl⟩ := four lf4
    have p0 : (([a0, a1, a2, a3] ++ [b0, b1, b2, b3] ++ [k0, k1, k2, k3] ++ [d0, d1, d2, d3] ++ [e0, e1, e2, e3] ++ [f0, f1, f2, f3]).drop (4 * 0)).take 4 = [a0, a1, a2, a3] := by rfl
    have p1 : (([a0, a1, a2, a3] ++ [b0, b1, b2, b3] ++ [k0, k1, k2, k3] ++ [d0, d1, d2, d3] ++ [e0, e1, e2, e3] ++ [f0, f1, f2, f3]).drop (4 * 1)).take 4 = [b0, b1, b2, b3] := by rfl
    have p2 : (([a0, a1, a2, a3] ++ [b0, b1, b2, b3] ++ [k0, k1, k2, k3] ++ [d0, d1, d2, d3] ++ [e0, e1, e2, e3] ++ [f0, f1, f2, f3]).drop (4 * 2)).take 4 = [k0, k1, k2, k3] := by rfl
    have p3 : (([a0, a1, a2, a3] ++ [b0, b1, b2, b3] ++ [k0, k1, k2, k3] ++ [d0, d1, d2, d3] ++ [e0, e1, e2, e3] ++ [f0, f1, f2, f3]).drop (4 * 3)).take 4 = [d0, d1, d2, d3] := by rfl
    have p4 : (([a0, a1, a2, a3] ++ [b0, b1, b2, b3] ++ [k0, k1, k2, k3] ++ [d0, d1, d2, d3] ++ [e0, e1, e2, e3] ++ [f0, f1, f2, f3]).drop (4 * 4)).take 4 = [e0, e1, e2, e3] := by rfl
    have p5 : (([a0, a1, a2, a3] ++ [b0, b1, b2, b3] ++ [k0, k1, k2, k3] ++ [d0, d1, d2, d3] ++ [e0, e1, e2, e3] ++ [f0, f1, f2, f3]).drop (4 * 5)).take 4 = [f0, f1, f2, f3] := by rfl
    rw [p0, p1, p2, p3, p4, p5, ← ha, ← hb, ← hk, ← hd, ← he, ← hf, key a (by omega) (by omega), key b (by omega) (by omega), key k (by omega) (by omega), key d (by omega) (by omega), key e (by omega) (by omega), key f (by omega) (by omega)]
  unfold parseCfg
  rw [if_pos (Cfg.bytes_length _), e0, if_pos hg]
theorem talk_back (c : Cfg) (hg : c.good) (d m : List UInt8) (hd : d.length = 16) (hm : (m.length : Int) = c.message) : talkReq c d m = (d ++ m, 0) ∧ talkParsed c (d ++ m) = (d, m, 0) := by
  unfold talkReq talkParsed
  rw [if_pos hg, if_pos hg, if_pos hm, if_pos (by simp [hd]; omega)]
  exact ⟨rfl, by rw [List.take_left' hd, List.drop_left' hd]⟩
theorem rep_back (c : Cfg) (hg : c.good) (th : Bool) (m : List UInt8) (hm : (m.length : Int) = c.message) :
    talkRep c th m = ((if th then 1 :: m else List.replicate (1 + c.message.toNat) 0), 0) ∧ repParsed c (if th then 1 :: m else List.replicate (1 + c.message.toNat) 0) = (th, (if th then m else List.replicate c.message.toNat 0), 0) := by
  have hg' := hg
  unfold Cfg.good at hg'
  unfold talkRep repParsed
  rw [if_pos hg, if_pos hg, if_pos hm]
  cases th
  · refine ⟨rfl, ?_⟩
    simp only [Bool.false_eq_true, if_false]
    rw [if_pos (by simp; omega), show 1 + c.message.toNat = c.message.toNat + 1 by omega, List.replicate_succ]
    have hz : orAll (List.replicate c.message.toNat 0) = 0 := (orAll_zero _).2 (by simp)
    dsimp only
    rw [if_neg (by rw [hz]; decide)]; rfl
  · refine ⟨rfl, ?_⟩
    simp only [if_true]
    rw [if_pos (by simp; omega)]; rfl
theorem dial_back (c : Cfg) (hg : c.good) (n : Int) (hn : 0 ≤ n) (hb : n < c.buckets) (l : List UInt8) (hl : l.length = 88) : dialReq c n l = (le n.toNat 4 ++ l, 0) ∧ dialParsed c (le n.toNat 4 ++ l) = (n, l, 0) := by
  have hg' := hg
  unfold Cfg.good at hg'
  unfold dialReq dialParsed
  have h4 : (le n.toNat 4).length = 4 := le_length _ _
  have e : (leN (le n.toNat 4) : Int) = n := by rw [leN_le4 _ (by omega)]; omega
  rw [if_pos hg, if_pos hg, if_pos ⟨hn, hb⟩, if_pos hl, if_pos (by simp [le_length, hl]), List.take_left' h4, List.drop_left' h4, e, if_pos hb]
  exact ⟨rfl, rfl⟩
end Go.Proofs.YtpboahlpgfglkaaDoor.X
