/-
  Contracts: the document's frames; lists of lists with marked room, made and looked at.
-/
import Derived.Test.YtpboahlpgfglkaaDoorF33
import Derived.Test.YtpboahlpgfglkaaDoorF27a
namespace Go.Proofs.YtpboahlpgfglkaaDoor.X
open Go Go.RowKit
set_option linter.unusedVariables false
set_option linter.unusedSimpArgs false
set_option maxRecDepth 100000

set_option maxHeartbeats 1000000 in
theorem refFrame (w : World) (n : Int) (A : Option Addr) (ca : Nat) (rs : List Row) (hA : RdRows w A rs) :
    Calls Tryd.prog 27 #[i64 n, .slice A rs.length ca] w (Ret (Ans (frameF n (rs.map Row.l)).1 (frameF n (rs.map Row.l)).2 w)) := by
  have hA1 := hA.rd
  refine enter (args := [_, _]) Tryd.func27 rfl rfl rfl ?_
  unfold frameF
  by_cases h0 : 1 ≤ n
  rotate_left
  · rw [if_neg (by omega)]
    repeat (first | refine st ?_ | (refine sa ?_; intro _))
    exact VE_ret2 rfl rfl rfl (fun w s => ⟨_, rfl, Ans.none s⟩)
  by_cases h1 : n < 64
  rotate_left
  · rw [if_neg (by omega)]
    repeat (first | refine st ?_ | (refine sa ?_; intro _))
    exact VE_ret2 rfl rfl rfl (fun w s => ⟨_, rfl, Ans.none s⟩)
  rw [if_pos ⟨h0, h1⟩, List.length_map]
  by_cases h256 : rs.length ≤ 256
  rotate_left
  · rw [if_neg h256]
    repeat (first | refine st ?_ | (refine sa ?_; intro _))
    exact VE_ret2 rfl rfl rfl (fun w s => ⟨_, rfl, Ans.none s⟩)
  rw [if_pos h256]
  obtain ⟨m, rfl⟩ := Int.eq_ofNat_of_zero_le (show 0 ≤ n by omega)
  repeat (first | refine st ?_ | (refine sa ?_; intro _))
  refine VC_loop ⟨fun k : Nat => k ≤ rs.length ∧ ∀ q ∈ rs.take k, q.l.length = 88, fun k => [(0, i64 (m : Int)), (1, .slice A rs.length ca), (6, i64 (k : Int))], fun _ => [], fun _ => []⟩ (fun k => rs.length - k) 0 ⟨by omega, by simp⟩ ⟨rfl, rfl, rfl, trivial⟩ (fun _ s => s) ?_
  rintro k ⟨hk, hg⟩
  dsimp only at hk hg ⊢
  by_cases hkn : k < rs.length
  · obtain ⟨r, hr⟩ : ∃ r, rs[k]? = some r := ⟨rs[k]'hkn, List.getElem?_eq_getElem _⟩
    by_cases h88 : r.l.length = 88
    · repeat (first | refine st ?_ | (refine sa ?_; intro _))
      exact VE_fam (k + 1) ⟨by omega, len_take hr hg h88⟩ (by (try dsimp only); omega) ⟨rfl, rfl, rfl, trivial⟩ (fun _ s => s)
    · rw [if_neg (fun h => h88 (h r.l (List.mem_map_of_mem (List.mem_of_getElem? hr))))]
      repeat (first | refine st ?_ | (refine sa ?_; intro _))
      exact VE_ret2 rfl rfl rfl (fun w s => ⟨_, rfl, Ans.none s⟩)
  · have hk' : k = rs.length := by omega
    subst hk'
    rw [List.take_length] at hg
    have h88 : ∀ l ∈ rs.map Row.l, l.length = 88 := by
      intro l hl
      obtain ⟨r, hr, rfl⟩ := List.mem_map.1 hl
      exact hg r hr
    rw [if_pos h88]
    have hcl := cat88 hg
    have hm4 : (UInt64.ofNat m).toNat = m := by rw [UInt64.toNat_ofNat', Nat.mod_eq_of_lt (by omega)]
    have hn4 : (UInt64.ofNat rs.length).toNat = rs.length := by rw [UInt64.toNat_ofNat', Nat.mod_eq_of_lt (by omega)]
    repeat (first | refine st ?_ | (refine sa ?_; intro _))
    apply VL_call; exact .none; exact rfl; exact rfl
    · intro w1 s; exact little w1 (UInt64.ofNat m) 4 (by omega)
    rintro w1 v w2 s ⟨e1, A1, c1, rfl, g1, t⟩
    refine ⟨_, _, s.comp0 t, ?_⟩
    rw [hm4] at g1
    repeat (first | refine st ?_ | (refine sa ?_; intro _))
    apply VL_call; exact .none; exact rfl; exact rfl
    · intro w1 s; exact little w1 (UInt64.ofNat rs.length) 4 (by omega)
    rintro w1 v w2 s ⟨e2, A2, c2, rfl, g2, t⟩
    refine ⟨_, _, s.comp0 t, ?_⟩
    rw [hn4] at g2
    apply VL_call; exact .none; exact rfl; exact rfl
    · intro w1 s
      have q := two w1 A1 A2 c1 c2 (le m 4) (le rs.length 4) (s.rdO (k := 0) rfl g1) (s.rdO (k := 1) rfl g2) (by simp [le_length])
      rw [le_length, le_length] at q; exact q
    rintro w1 v w2 s ⟨e3, A3, c3, rfl, g3, t⟩
    refine ⟨_, _, s.comp0 t, ?_⟩
    repeat (first | refine st ?_ | (refine sa ?_; intro _))
    apply VL_call; exact .none; exact rfl; exact rfl
    · intro w1 s; exact join w1 A ca rs (s.rdRows hA) (by omega) (by omega)
    rintro w1 v w2 s ⟨e4, A4, c4, rfl, g4, t⟩
    refine ⟨_, _, s.comp0 t, ?_⟩
    apply VL_call; exact .none; exact rfl; exact rfl
    · intro w1 s; exact two w1 A3 A4 c3 c4 (le m 4 ++ le rs.length 4) (cat rs) (s.rdO (k := 2) rfl g3) (s.rdO (k := 3) rfl g4) (by simp [le_length]; omega)
    rintro w1 v w2 s ⟨e5, A5, c5, rfl, g5, t⟩
    refine ⟨_, _, s.comp0 t, ?_⟩
    repeat (first | refine st ?_ | (refine sa ?_; intro _))
    exact VE_ret2 rfl rfl rfl (fun w s => ⟨_, rfl, e5, A5, c5, rfl, g5, s.pick [4] (by decide)⟩)

theorem Rd.part {w : World} {A A' : Option Addr} {l : List UInt8} {k m ca : Nat} (hA : Rd w A (l.map u8)) (hs : Sub A A' (k * 1) (ca - k)) (h : k + m ≤ l.length) (hc : l.length ≤ ca) : Rd w A' (((l.drop k).take m).map u8) :=
  hA.sub hs (by simp; omega) (fun j v hj => by
    simp only [List.getElem?_map, List.getElem?_take, List.getElem?_drop] at hj ⊢
    split at hj
    · rw [Nat.mul_one]; exact hj
    · simp at hj)
set_option maxHeartbeats 1000000 in
theorem refParseFrame (w : World) (A : Option Addr) (ca : Nat) (l : List UInt8) (hA : Rd w A (l.map u8)) (hl : l.length ≤ 140737488355328) (hca : l.length ≤ ca) :
    Calls Tryd.prog 32 #[.slice A l.length ca] w (Ret (AnsR (frameParsed l).1 (frameParsed l).2.1 (frameParsed l).2.2 w)) := by
  refine enter (args := [_]) Tryd.func32 rfl rfl rfl ?_
  unfold frameParsed
  by_cases h8 : 8 ≤ l.length
  rotate_left
  · rw [if_neg (fun h => h8 h.1)]
    repeat (first | refine st ?_ | (refine sa ?_; intro _))
    exact VE_ret3 rfl rfl rfl rfl (fun w s => ⟨_, rfl, AnsR.none s⟩)
  have hsp := hA.spot (by rw [List.length_map]; omega)
  have hl4 : (l.take 4).length = 4 := by simp; omega
  have hl44 : ((l.drop 4).take 4).length = 4 := by simp; omega
  have h4 : Rd w A ((l.take 4).map u8) := by rw [← List.take_append_drop 4 l, List.map_append] at hA; exact hA.append
  repeat (first | refine st ?_ | (refine sa ?_; intro _))
  refine VL_slice_hi (i' := 4) .none rfl rfl rfl (by omega) hsp rfl ?_
  apply VL_call; exact .none; exact rfl; exact rfl
  · intro w1 s
    have q := numberRef w1 A ca (l.take 4) (s.rd h4) (by omega)
    rw [hl4] at q; exact q
  rintro w1 v w2 s ⟨rfl, t⟩
  refine ⟨_, _, s.comp t, ?_⟩
  repeat (first | refine st ?_ | (refine sa ?_; intro _))
  apply VL_slice_lohi (i' := 4) (j' := 8); exact .none; exact rfl; exact rfl; exact rfl; exact rfl; exact rfl; omega; omega; exact rfl
  intro A1 hs1
  apply VL_call; exact .none; exact rfl; exact rfl
  · intro w1 s
    have q := numberRef w1 A1 (ca - 4) ((l.drop 4).take 4) (s.rd (hA.part hs1 (by omega) hca)) (by omega)
    rw [hl44] at q; exact q
  rintro w1 v w2 s ⟨rfl, t⟩
  refine ⟨_, _, s.comp t, ?_⟩
  obtain ⟨bu, hbu⟩ : ∃ bu, bu = leN (l.take 4) := ⟨_, rfl⟩
  have en : leN ((l.drop 4).take 4) = frameN l := rfl
  obtain ⟨nn, hnn⟩ : ∃ nn, nn = frameN l := ⟨_, rfl⟩
  rw [en, ← hbu, ← hnn]
  have hdef : frameOk l ↔ (1 ≤ bu ∧ bu < 64 ∧ nn ≤ 256 ∧ l.length = 8 + 88 * nn) := by
    unfold frameOk; rw [← hbu, ← hnn]; exact ⟨fun h => h.2, fun h => ⟨h8, h⟩⟩
  by_cases g1 : 1 ≤ bu
  rotate_left
  · rw [if_neg (by rw [hdef]; omega)]
    repeat (first | refine st ?_ | (refine sa ?_; intro _))
    exact VE_ret3 rfl rfl rfl rfl (fun w s => ⟨_, rfl, AnsR.none s⟩)
  by_cases g2 : bu < 64
  rotate_left
  · rw [if_neg (by rw [hdef]; omega)]
    repeat (first | refine st ?_ | (refine sa ?_; intro _))
    exact VE_ret3 rfl rfl rfl rfl (fun w s => ⟨_, rfl, AnsR.none s⟩)
  by_cases g3 : nn ≤ 256
  rotate_left
  · rw [if_neg (by rw [hdef]; omega)]
    repeat (first | refine st ?_ | (refine sa ?_; intro _))
    exact VE_ret3 rfl rfl rfl rfl (fun w s => ⟨_, rfl, AnsR.none s⟩)
  by_cases g4 : l.length = 8 + 88 * nn
  rotate_left
  · rw [if_neg (by rw [hdef]; omega)]
    repeat (first | refine st ?_ | (refine sa ?_; intro _))
    exact VE_ret3 rfl rfl rfl rfl (fun w s => ⟨_, rfl, AnsR.none s⟩)
  rw [if_pos (hdef.2 ⟨g1, g2, g3, g4⟩)]
  repeat (first | refine st ?_ | (refine sa ?_; intro _))
  refine VC_loop ⟨fun i : Nat × Ent × Option Addr × Nat × List Ent × List Row => i.1 ≤ nn ∧ NewRows i.2.1 i.2.2.2.2.1 i.2.2.1 i.2.2.2.1 i.2.2.2.2.2 (frameRows l i.1),
    fun i => [(0, .slice A l.length ca), (5, i64 (bu : Int)), (6, i64 (nn : Int)), (7, .slice i.2.2.1 i.1 i.2.2.2.1), (8, i64 (i.1 : Int))], fun _ => [], fun i => i.2.1 :: i.2.2.2.2.1⟩
    (fun i => nn - i.1) (0, none, none, 0, [], []) ⟨by simp, NewRows.nil⟩ ⟨rfl, rfl, rfl, rfl, rfl, trivial⟩ (fun _ s => s.none) ?_
  rintro ⟨k, e, A', c', es, rs⟩ ⟨hk, ho⟩
  dsimp only at hk ho ⊢
  have hrk : rs.length = k := by rw [ho.len, frameRows_length]
  by_cases hkn : k < nn
  · repeat (first | refine st ?_ | (refine sa ?_; intro _))
    obtain ⟨jj, hjj⟩ : ∃ jj, jj = 8 + 88 * k + 88 := ⟨_, rfl⟩
    apply VL_slice_lohi (i' := 8 + 88 * k) (j' := jj); exact .none; exact rfl; exact rfl; exact rfl; omega; omega; omega; omega; exact rfl
    intro A2 hs2
    have ej : jj - (8 + 88 * k) = 88 := by omega
    rw [ej]
    have h88 : ((l.drop (8 + 88 * k)).take 88).length = 88 := by simp; omega
    apply VL_call; exact .none; exact rfl; exact rfl
    · intro w1 s
      have q := copyBytes w1 A2 (ca - (8 + 88 * k)) ((l.drop (8 + 88 * k)).take 88) (s.rd (hA.part hs2 (by omega) hca)) (by omega)
      rw [h88] at q; exact q
    rintro w1 v w2 s ⟨e2, A4, c2, rfl, h2, t⟩
    refine ⟨_, _, s.comp0 t, ?_⟩
    apply VL_buildSlice1; exact .none; exact rfl; exact rfl; exact rfl; exact rfl; exact rfl; exact rfl; exact rfl
    intro bt
    refine VL_append (vs := rs.map Row.val) (news := [.slice A4 88 c2]) (p := 0) (r := k + 1) .none rfl rfl rfl rfl ho.1 (by simp [hrk]) (all_row _) rfl (fun w s => s.rdH (get_last _ _)) rfl rfl (by simp [hrk]) (by omega) rfl (fun e3 A6 c3 h3 => ?_)
    repeat (first | refine st ?_ | (refine sa ?_; intro _))
    refine VE_fam (k + 1, e3, A6, c3, es ++ [e2], rs ++ [⟨A4, c2, (l.drop (8 + 88 * k)).take 88⟩]) ⟨by (try dsimp only); omega, ?_, ?_, ?_⟩ (by (try dsimp only); omega) ⟨rfl, rfl, rfl, rfl, rfl, trivial⟩ (fun _ s => s.perm ?_)
    · dsimp only; rw [List.map_append]; simp only [List.map_cons, List.map_nil, Row.val, h88]; exact h3
    · exact ho.2.1.snoc h2
    · dsimp only; rw [List.map_append, ho.2.2, frameRows_succ]; rfl
    · dsimp only; simp
  · have hk' : k = nn := by omega
    subst hk'
    repeat (first | refine st ?_ | (refine sa ?_; intro _))
    refine VE_ret3 rfl rfl rfl rfl (fun w s => ⟨_, rfl, e, es, A', c', rs, ?_, ho, s⟩)
    rw [frameRows_length]

/-! ### lists of lists with marked room -/
def SpQ (n : Nat) (j : Nat) (r : Row) (e : Ent) : Prop := ∃ b : Nat, r.A = some ⟨b, 0, none⟩ ∧ (j < n → r.c = r.l.length + 80 ∧ e = Blk b ((r.l ++ marks r.l.length).map u8) 5) ∧ (n ≤ j → r.l = [UInt8.ofNat j, 119] ∧ e = Blk b (r.l.map u8) 5)
theorem All1.snoc {Q : Nat → Row → Ent → Prop} {es rows r e} (h : All1 Q es rows) (hq : Q rows.length r e) : All1 Q (es ++ [e]) (rows ++ [r]) := by
  refine ⟨by simp [h.1], fun j e' r' he hr => ?_⟩
  rcases Nat.lt_trichotomy j es.length with hj | hj | hj
  · rw [List.getElem?_append_left hj] at he
    rw [List.getElem?_append_left (by rw [← h.1]; exact hj)] at hr
    exact h.2 j e' r' he hr
  · subst hj
    rw [List.getElem?_append_right (Nat.le_refl _)] at he
    rw [List.getElem?_append_right (by rw [h.1]; exact Nat.le_refl _), h.1] at hr
    simp at he hr
    subst he hr; rw [h.1]; exact hq
  · rw [List.getElem?_eq_none (by simp; omega)] at he; simp at he
theorem fill_val {vs : List Value} {k m : Nat} {z v : Value} (hv : vs.length = k) (hm : 0 < m) : (vs ++ List.replicate m z).set k v = vs ++ [v] ++ List.replicate (m - 1) z := by
  obtain ⟨q, rfl⟩ : ∃ q, m = q + 1 := ⟨m - 1, by omega⟩
  rw [List.set_append_right _ _ (by omega), hv, Nat.sub_self, List.replicate_succ]
  simp
set_option maxHeartbeats 1000000 in
theorem spareRows (w : World) (A : Option Addr) (ca : Nat) (rows : List Row) (hA : RdRows w A rows) (hn : rows.length * 24 ≤ 140737488351232) (hl : ∀ r ∈ rows, r.l.length ≤ 140737488351232) :
    Calls Tryd.prog 25 #[.slice A rows.length ca] w (Ret fun v w' => ∃ wb es rs, v = .slice (some ⟨wb, 0, none⟩) rows.length (rows.length + 3) ∧ rs.length = rows.length + 3 ∧ (rs.take rows.length).map Row.l = rows.map Row.l ∧ All1 (SpQ rows.length) es rs ∧ St w [] (Blk wb (rs.map Row.val) 32 :: es) w') := by
  have hA1 := hA.rd
  refine enter (args := [_]) Tryd.func25 rfl rfl rfl ?_
  repeat (first | refine st ?_ | (refine sa ?_; intro _))
  refine VL_makeBlk .none rfl rfl rfl (l' := rows.length + 3) (c' := rows.length + 3) rfl rfl (by omega) (by omega) (by omega) rfl (fun wb => ?_)
  repeat (first | refine st ?_ | (refine sa ?_; intro _))
  refine VC_loop ⟨fun i : Nat × List Ent × List Row => i.1 ≤ rows.length + 3 ∧ i.2.2.length = i.1 ∧ All1 (SpQ rows.length) i.2.1 i.2.2 ∧ (i.2.2.take rows.length).map Row.l = (rows.take i.1).map Row.l,
    fun i => [(0, .slice A rows.length ca), (3, .slice (some ⟨wb, 0, none⟩) (rows.length + 3) (rows.length + 3)), (4, i64 (i.1 : Int))], fun _ => [], fun i => Blk wb (i.2.2.map Row.val ++ List.replicate (rows.length + 3 - i.1) (.slice none 0 0)) 32 :: i.2.1⟩ (fun i => rows.length + 3 - i.1) (0, [], []) ⟨by simp, rfl, ⟨rfl, fun j e r h => by simp at h⟩, by simp⟩ ⟨rfl, rfl, rfl, trivial⟩ (fun _ s => by simpa using s) ?_
  rintro ⟨k, es, rs⟩ ⟨hk, hrl, ha, hrr⟩
  dsimp only at hk hrl ha hrr ⊢
  by_cases hkn : k < rows.length + 3
  rotate_left
  · have hk' : k = rows.length + 3 := by omega
    subst hk'
    repeat (first | refine st ?_ | (refine sa ?_; intro _))
    refine VL_slice_hi (i' := rows.length) .none rfl rfl rfl (by omega) (fun a h => by cases h; rfl) rfl ?_
    repeat (first | refine st ?_ | (refine sa ?_; intro _))
    refine VE_ret1 rfl rfl (fun w s => ⟨_, rfl, wb, es, rs, rfl, hrl, ?_, ha, ?_⟩)
    · rw [hrr, List.take_of_length_le (by omega)]
    · rw [Nat.sub_self, List.replicate_zero, List.append_nil] at s; exact s
  have hbl : (rs.map Row.val ++ List.replicate (rows.length + 3 - k) (.slice none 0 0 : Value)).length = rows.length + 3 := by simp; omega
  by_cases hk2 : k < rows.length
  · obtain ⟨r, hr⟩ : ∃ r, rows[k]? = some r := ⟨rows[k]'hk2, List.getElem?_eq_getElem _⟩
    have hrm := List.mem_of_getElem? hr
    repeat (first | refine st ?_ | (refine sa ?_; intro _))
    apply VL_call; exact .none; exact rfl; exact rfl
    · intro w1 s; exact spare w1 r.A r.c r.l (s.rd (hA.each r hrm)) (by have := hl r hrm; omega)
    rintro w1 v w2 s ⟨b2, rfl, t⟩
    refine ⟨_, _, s.comp0 t, ?_⟩
    repeat (first | refine st ?_ | (refine sa ?_; intro _))
    refine VL_storeB (p := 0) .none rfl rfl rfl rfl (by rw [hbl]; omega) (NF.zero _) ?_
    repeat (first | refine st ?_ | (refine sa ?_; intro _))
    refine VE_fam (k + 1, es ++ [Blk b2 ((r.l ++ marks r.l.length).map u8) 5], rs ++ [⟨some ⟨b2, 0, none⟩, r.l.length + 80, r.l⟩]) ⟨by (try dsimp only); omega, by simp [hrl], ?_, ?_⟩ (by (try dsimp only); omega) ⟨rfl, rfl, rfl, trivial⟩ (fun _ s => ?_)
    · exact ha.snoc ⟨b2, rfl, fun _ => ⟨rfl, rfl⟩, fun h => absurd h (by omega)⟩
    · dsimp only
      rw [List.take_of_length_le (by simp; omega), List.map_append, List.take_add_one, hr]
      rw [List.take_of_length_le (by omega)] at hrr
      rw [hrr]; simp
    · dsimp only
      have s' : St w [] (Blk wb ((rs.map Row.val ++ List.replicate (rows.length + 3 - k) (Value.slice none 0 0)).set k (.slice (some ⟨b2, 0, none⟩) r.l.length (r.l.length + 80))) 32 :: (es ++ [Blk b2 ((r.l ++ marks r.l.length).map u8) 5])) _ := s
      rw [fill_val (by simp [hrl]) (by omega)] at s'
      rw [List.map_append, show rows.length + 3 - (k + 1) = rows.length + 3 - k - 1 by omega]
      exact s'
  · repeat (first | refine st ?_ | (refine sa ?_; intro _))
    apply VL_buildSlice1; exact .none; exact rfl; exact rfl; exact rfl; exact rfl; exact rfl; exact rfl; exact rfl
    intro b2
    repeat (first | refine st ?_ | (refine sa ?_; intro _))
    refine VL_storeB (p := 0) .none rfl rfl rfl rfl (by rw [hbl]; omega) (NF.zero _) ?_
    repeat (first | refine st ?_ | (refine sa ?_; intro _))
    refine VE_fam (k + 1, es ++ [Blk b2 (([UInt8.ofNat k, 119] : List UInt8).map u8) 5], rs ++ [⟨some ⟨b2, 0, none⟩, 2, [UInt8.ofNat k, 119]⟩]) ⟨by (try dsimp only); omega, by simp [hrl], ?_, ?_⟩ (by (try dsimp only); omega) ⟨rfl, rfl, rfl, trivial⟩ (fun _ s => ?_)
    · exact ha.snoc ⟨b2, rfl, fun h => absurd h (by omega), fun _ => ⟨by rw [hrl], rfl⟩⟩
    · dsimp only
      rw [List.take_append_of_le_length (by omega), hrr, List.take_of_length_le (by omega), List.take_of_length_le (by omega)]
    · dsimp only
      have s' : St w [] (Blk wb ((rs.map Row.val ++ List.replicate (rows.length + 3 - k) (Value.slice none 0 0)).set k (.slice (some ⟨b2, 0, none⟩) 2 2)) 32 :: (es ++ [Blk b2 (([UInt8.ofNat k, 119] : List UInt8).map u8) 5])) _ := s
      rw [fill_val (by simp [hrl]) (by omega)] at s'
      rw [List.map_append, show rows.length + 3 - (k + 1) = rows.length + 3 - k - 1 by omega]
      exact s'
end Go.Proofs.YtpboahlpgfglkaaDoor.X
