/-
  Contract: the statement CodecFramed.
-/
import Derived.Test.YtpboahlpgfglkaaDoorF27a
namespace Go.Proofs.YtpboahlpgfglkaaDoor.X
open Go Go.RowKit
set_option linter.unusedVariables false
set_option linter.unusedSimpArgs false
set_option maxRecDepth 100000

/-! ### a frame there and back -/
theorem flat88 : ∀ (ls : List (List UInt8)), (∀ l ∈ ls, l.length = 88) → ls.flatten.length = 88 * ls.length
  | [], _ => rfl
  | l :: ls, h => by
    have ih := flat88 ls (fun q hq => h q (by simp [hq]))
    have h0 := h l (by simp)
    simp only [List.flatten_cons, List.length_append, List.length_cons] at ih ⊢
    omega
theorem chunks88 : ∀ (ls : List (List UInt8)), (∀ l ∈ ls, l.length = 88) → ((List.range ls.length).map fun i => (ls.flatten.drop (88 * i)).take 88) = ls
  | [], _ => rfl
  | l :: ls, h => by
    have ih := chunks88 ls (fun q hq => h q (by simp [hq]))
    have h0 := h l (by simp)
    rw [List.length_cons, List.range_succ_eq_map, List.map_cons, List.map_map]
    have e0 : ((l :: ls).flatten.drop (88 * 0)).take 88 = l := by
      rw [Nat.mul_zero, List.drop_zero, List.flatten_cons, List.take_left' h0]
    rw [e0]
    congr 1
    conv => rhs; rw [← ih]
    apply List.map_congr_left
    intro i _
    simp only [Function.comp_apply, Nat.succ_eq_add_one, List.flatten_cons]
    rw [show 88 * (i + 1) = 88 + 88 * i by omega, ← List.drop_drop, List.drop_left' h0]
def frameB (n : Nat) (ls : List (List UInt8)) : List UInt8 := le n 4 ++ (le ls.length 4 ++ ls.flatten)
theorem frameB_len {n : Nat} {ls : List (List UInt8)} (h : ∀ l ∈ ls, l.length = 88) : (frameB n ls).length = 8 + 88 * ls.length := by
  simp [frameB, le_length, flat88 ls h]; omega
theorem frameB_head (n : Nat) (ls : List (List UInt8)) : (frameB n ls).take 4 = le n 4 ∧ ((frameB n ls).drop 4).take 4 = le ls.length 4 ∧ (frameB n ls).drop 8 = ls.flatten := by
  have h4 : ∀ k : Nat, (le k 4).length = 4 := fun k => le_length k 4
  unfold frameB
  refine ⟨List.take_left' (h4 n), ?_, ?_⟩
  · rw [List.drop_left' (h4 n), List.take_left' (h4 _)]
  · rw [show (8 : Nat) = 4 + 4 from rfl, ← List.drop_drop, List.drop_left' (h4 n), List.drop_left' (h4 _)]
theorem frame_back {n : Nat} {ls : List (List UInt8)} (hn : 1 ≤ n ∧ n < 64) (h : ∀ l ∈ ls, l.length = 88) (hl : ls.length ≤ 256) :
    frameF (n : Int) ls = (frameB n ls, 0) ∧ frameParsed (frameB n ls) = ((n : Int), ls, 0) := by
  obtain ⟨h1, h2, h3⟩ := frameB_head n ls
  have hlen := frameB_len (n := n) h
  have eN : frameN (frameB n ls) = ls.length := by unfold frameN; rw [h2]; exact leN_le4 _ (by omega)
  have eB : leN ((frameB n ls).take 4) = n := by rw [h1]; exact leN_le4 _ (by omega)
  refine ⟨?_, ?_⟩
  · unfold frameF
    rw [if_pos ⟨by omega, by omega⟩, if_pos hl, if_pos h, Int.toNat_natCast]
    simp [frameB]
  · have hok : frameOk (frameB n ls) := by unfold frameOk; rw [eB, eN, hlen]; omega
    unfold frameParsed
    rw [if_pos hok, eB, eN]
    have er : frameRows (frameB n ls) ls.length = ls := by
      unfold frameRows
      conv => rhs; rw [← chunks88 ls h]
      apply List.map_congr_left
      intro i _
      rw [← List.drop_drop, h3]
    rw [er]
theorem frame_not {l l' : List UInt8} (hl : 8 ≤ l.length) (h : l.length = 8 + 88 * frameN l) (h8 : 8 ≤ l'.length → l'.take 8 = l.take 8) (hne : l'.length ≠ l.length) : frameParsed l' = (0, [], 202) := by
  unfold frameParsed
  rw [if_neg]
  intro hok
  obtain ⟨g8, -, -, -, gl⟩ := hok
  have e : frameN l' = frameN l := by
    unfold frameN
    have key : ∀ x : List UInt8, (x.drop 4).take 4 = (x.take 8).drop 4 := fun x => by rw [List.drop_take]
    rw [key l', key l, h8 g8]
  omega

def sizedRows (rs : List Row) : List (List UInt8) := rs.map fun r => sizedTo r.l 88
set_option maxHeartbeats 4000000 in
theorem codecFramed (w : World) (n : Int) (A : Option Addr) (ca : Nat) (rs : List Row) (hA : RdRows w A rs) (hn : rs.length ≤ 140737488351232) (hl : ∀ r ∈ rs, r.l.length ≤ 140737488351232) :
    Calls Tryd.prog 10 #[i64 n, .slice A rs.length ca] w (Ret fun v w' => v = .bool true ∧ St w [] [] w') := by
  have hA1 := hA.rd
  refine enter (args := [_, _]) Tryd.func10 rfl rfl rfl ?_
  repeat (first | refine st ?_ | (refine sa ?_; intro _))
  apply VL_call; exact .none; exact rfl; exact rfl
  · intro w1 s; exact awake w1
  rintro w1 v w2 s ⟨rfl, t⟩
  refine ⟨_, _, s.comp t, ?_⟩
  repeat (first | refine st ?_ | (refine sa ?_; intro _))
  refine VC_cutB ⟨fun i : Ent × List Ent × Option Addr × Nat × List Row × List (List UInt8) => NewRows i.1 i.2.1 i.2.2.1 i.2.2.2.1 i.2.2.2.2.1 i.2.2.2.2.2 ∧ (∀ l ∈ i.2.2.2.2.2, l.length = 88) ∧ i.2.2.2.2.2.length ≤ 256,
    fun i => [(0, i64 n), (5, .slice i.2.2.1 i.2.2.2.2.2.length i.2.2.2.1)], fun _ => [], fun i => i.1 :: i.2.1⟩ ?_ ?_
  · refine VC_loop ⟨fun i : Nat × Ent × Option Addr × Nat × List Ent × List Row => i.1 ≤ rs.length ∧ i.1 ≤ 256 ∧ NewRows i.2.1 i.2.2.2.2.1 i.2.2.1 i.2.2.2.1 i.2.2.2.2.2 (sizedRows (rs.take i.1)),
      fun i => [(0, i64 n), (1, .slice A rs.length ca), (5, .slice i.2.2.1 i.1 i.2.2.2.1), (6, i64 (i.1 : Int))], fun _ => [], fun i => i.2.1 :: i.2.2.2.2.1⟩ (fun i => rs.length - i.1) (0, none, none, 0, [], []) ⟨by simp, by simp, by simpa [sizedRows] using NewRows.nil⟩ ⟨rfl, rfl, rfl, rfl, trivial⟩ (fun _ s => s.none) ?_
    rintro ⟨k, e, A', c', es, rows⟩ ⟨hk, hk256, ho⟩
    dsimp only at hk hk256 ho ⊢
    have hrk : rows.length = k := by rw [ho.len]; simp [sizedRows]; omega
    have h88 : ∀ l ∈ sizedRows (rs.take k), l.length = 88 := by
      intro l hl
      obtain ⟨r, -, rfl⟩ := List.mem_map.1 hl
      exact sizedTo_length _ _
    have hks : (sizedRows (rs.take k)).length = k := by simp [sizedRows]; omega
    by_cases hkn : k < rs.length
    · by_cases hk2 : k < 256
      · obtain ⟨r, hr⟩ : ∃ r, rs[k]? = some r := ⟨rs[k]'hkn, List.getElem?_eq_getElem _⟩
        have hrm := List.mem_of_getElem? hr
        repeat (first | refine st ?_ | (refine sa ?_; intro _))
        apply VL_call; exact .none; exact rfl; exact rfl
        · intro w1 s; exact sized w1 r.A r.c r.l 88 (s.rd (hA.each r hrm)) (by omega) (by have := hl r hrm; omega)
        rintro w1 v w2 s ⟨b2, rfl, t⟩
        refine ⟨_, _, s.comp0 t, ?_⟩
        apply VL_buildSlice1; exact .none; exact rfl; exact rfl; exact rfl; exact rfl; exact rfl; exact rfl; exact rfl
        intro bt
        refine VL_append (vs := rows.map Row.val) (news := [.slice (some ⟨b2, 0, none⟩) 88 88]) (p := 0) (r := k + 1) .none rfl rfl rfl rfl ho.1 (by simp [hrk]) (all_row _) rfl (fun w s => s.rdH (get_last _ _)) rfl rfl (by simp [hrk]) (by omega) rfl (fun e3 A3 c3 h3 => ?_)
        repeat (first | refine st ?_ | (refine sa ?_; intro _))
        refine VE_fam (k + 1, e3, A3, c3, es ++ [Blk b2 ((sizedTo r.l 88).map u8) 5], rows ++ [⟨some ⟨b2, 0, none⟩, 88, sizedTo r.l 88⟩]) ⟨by (try dsimp only); omega, by (try dsimp only); omega, ?_, ?_, ?_⟩ (by (try dsimp only); omega) ⟨rfl, rfl, rfl, rfl, trivial⟩ (fun _ s => s.perm ?_)
        · dsimp only; rw [List.map_append]; simp only [List.map_cons, List.map_nil, Row.val, sizedTo_length]; exact h3
        · exact ho.2.1.snoc (.inr ⟨b2, [], (0, 0), by simp, rfl, by simp [sizedTo_length], NF.zero _⟩)
        · dsimp only; rw [List.map_append, ho.2.2, List.take_add_one, hr]; simp [sizedRows]
        · dsimp only; simp
      · repeat (first | refine st ?_ | (refine sa ?_; intro _))
        refine VE_fam (e, es, A', c', rows, sizedRows (rs.take k)) ⟨ho, h88, by dsimp only; omega⟩ trivial ⟨rfl, ?_, trivial⟩ (fun _ s => s)
        rw [hks]; rfl
    · repeat (first | refine st ?_ | (refine sa ?_; intro _))
      refine VE_fam (e, es, A', c', rows, sizedRows (rs.take k)) ⟨ho, h88, by dsimp only; omega⟩ trivial ⟨rfl, ?_, trivial⟩ (fun _ s => s)
      rw [hks]; rfl
  rintro ⟨e, es, A', c', rows, ls⟩ ⟨ho, h88, h256⟩
  dsimp only at ho h88 h256 ⊢
  have hrl : rows.length = ls.length := ho.len
  have hrr : rows.map Row.l = ls := ho.2.2
  have r88 : ∀ r ∈ rows, r.l.length = 88 := fun r hr => h88 r.l (by rw [← hrr]; exact List.mem_map_of_mem hr)
  repeat (first | refine st ?_ | (refine sa ?_; intro _))
  apply VL_call; exact .none; exact rfl; exact rfl
  · intro w1 s
    have q := copyRows w1 A' c' rows (ho.rd (H := []) s) (by omega) (fun r hr => by rw [r88 r hr]; omega)
    rw [hrl, hrr] at q; exact q
  rintro w1 v w2 s ⟨e2, es2, A2, c2, rs2, rfl, h2, t⟩
  refine ⟨_, _, s.comp0 t, ?_⟩
  have hrl2 : rs2.length = ls.length := h2.len
  have hrr2 : rs2.map Row.l = ls := h2.2.2
  apply VL_call; exact .none; exact rfl; exact rfl
  · intro w1 s
    have q := frame w1 n A2 c2 rs2 (h2.rdAt (H := e :: es) s) (.inl fun r hr => h88 r.l (by rw [← hrr2]; exact List.mem_map_of_mem hr))
    rw [hrl2, hrr2] at q; exact q
  by_cases hin : 1 ≤ n ∧ n < 64
  rotate_left
  · have hF : frameF n ls = ([], 201) := by unfold frameF; rw [if_neg hin]
    rw [hF]
    rintro w1 v w2 s ⟨e3, A3, c3, rfl, h3, t⟩
    refine ⟨_, _, s.comp0 t, ?_⟩
    by_cases hn0 : n < 1
    · repeat (first | refine st ?_ | (refine sa ?_; intro _))
      exact VE_ret1 rfl rfl (fun w s => ⟨_, rfl, rfl, s.drop⟩)
    · have hn1 : 64 ≤ n := by omega
      repeat (first | refine st ?_ | (refine sa ?_; intro _))
      exact VE_ret1 rfl rfl (fun w s => ⟨_, rfl, rfl, s.drop⟩)
  obtain ⟨hi1, hi2⟩ := hin
  obtain ⟨m, rfl⟩ := Int.eq_ofNat_of_zero_le (show 0 ≤ n by omega)
  obtain ⟨hF, hP⟩ := frame_back (n := m) (by omega) h88 h256
  have hfl := frameB_len (n := m) h88
  obtain ⟨fb, hfb⟩ : ∃ fb, fb = frameB m ls := ⟨_, rfl⟩
  have hfN : frameN fb = ls.length := by rw [hfb]; unfold frameN; rw [(frameB_head m ls).2.1]; exact leN_le4 _ (by omega)
  rw [← hfb] at hF hP hfl
  rw [hF]
  rintro w1 v w2 s ⟨e3, A3, c3, rfl, h3, t⟩
  refine ⟨_, _, s.comp0 t, ?_⟩
  refine VL_H (M' := []) (H' := (e :: es) ++ [e3]) (fun w s => s.perm (List.Sublist.append (List.sublist_append_left _ _) (List.Sublist.refl _))) ?_
  dsimp only
  repeat (first | refine st ?_ | (refine sa ?_; intro _))
  apply VL_call; exact .none; exact rfl; exact rfl
  · intro w1 s; exact copyBytes w1 A3 c3 fb (s.rdO (get_last _ _) h3) (by omega)
  rintro w1 v w2 s ⟨e4, A4, c4, rfl, h4, t⟩
  refine ⟨_, _, s.comp0 t, ?_⟩
  apply VL_call; exact .none; exact rfl; exact rfl
  · intro w1 s
    have q := parseFrame w1 A4 c4 fb (s.rdO (get_last _ _) h4) (by omega)
    rw [hP] at q; dsimp only at q; exact q
  rintro w1 v w2 s ⟨e5, es5, A5, c5, rs5, rfl, h5, t⟩
  refine ⟨_, _, s.comp0 t, ?_⟩
  have hrl5 : rs5.length = ls.length := h5.len
  have hrr5 : rs5.map Row.l = ls := h5.2.2
  have r885 : ∀ r ∈ rs5, r.l.length = 88 := fun r hr => h88 r.l (by rw [← hrr5]; exact List.mem_map_of_mem hr)
  repeat (first | refine st ?_ | (refine sa ?_; intro _))
  apply VL_call; exact .yes rfl rfl; exact rfl; exact rfl
  · intro w1 s
    have q := eqRows w1 A5 A' c5 c' rs5 rows (h5.rdAt s) (ho.rd (H := []) (s.perm (((List.sublist_append_left _ _).trans (List.sublist_append_left _ _)).trans (List.sublist_append_left _ _)))) (by omega) (fun r hr => by rw [r885 r hr]; omega)
    rw [hrl5, hrl, hrr5, hrr] at q
    simpa using q
  rintro w1 v w2 s ⟨rfl, t⟩
  refine ⟨_, _, s.comp t, ?_⟩
  repeat (first | refine st ?_ | (refine sa ?_; intro _))
  refine VL_H (M' := []) (H' := [e3]) (fun w s => s.perm (((List.sublist_append_right (e :: es) [e3]).trans (List.sublist_append_left _ _)).trans (List.sublist_append_left _ _))) ?_
  obtain ⟨sh, hsh⟩ : ∃ sh, sh = fb.take (fb.length - 1) := ⟨_, rfl⟩
  have hshl : sh.length = fb.length - 1 := by rw [hsh]; simp
  have hP2 : frameParsed sh = (0, [], 202) := frame_not (l := fb) (by omega) (by rw [hfN]; exact hfl) (fun h => by rw [hsh, List.take_take, Nat.min_eq_left (by omega)]) (by omega)
  have hP3 : frameParsed (fb ++ [0]) = (0, [], 202) := frame_not (l := fb) (by omega) (by rw [hfN]; exact hfl) (fun h => by rw [List.take_append_of_le_length (by omega)]) (by simp)
  have hcap : fb.length ≤ c3 := by simpa using h3.le
  apply VL_slice_hi (i' := sh.length); exact .none; exact rfl; exact rfl; (rw [hshl]; omega); omega; (intro a ha; obtain ⟨b, off, e'⟩ := h3.safe0 (by simp; omega); rw [e'] at ha; cases ha; rfl); exact rfl
  apply VL_call; exact .none; exact rfl; exact rfl
  · intro w1 s
    have h0 := s.rdO (k := 0) rfl h3
    refine copyBytes w1 A3 c3 sh ?_ (by omega)
    rw [← List.take_append_drop (fb.length - 1) fb, List.map_append, ← hsh] at h0
    exact h0.append
  rintro w1 v w2 s ⟨e6, A6, c6, rfl, h6, t⟩
  refine ⟨_, _, s.comp0 t, ?_⟩
  apply VL_call; exact .none; exact rfl; exact rfl
  · intro w1 s
    have q := parseFrame w1 A6 c6 sh (s.rdO (k := 1) rfl h6) (by omega)
    rw [hP2] at q; dsimp only at q; exact q
  rintro w1 v w2 s ⟨e7, es7, A7, c7, rs7, rfl, h7, t⟩
  refine ⟨_, _, s.comp0 t, ?_⟩
  repeat (first | refine st ?_ | (refine sa ?_; intro _))
  refine VL_H (M' := []) (H' := [e3]) (fun w s => s.perm ((List.sublist_append_left _ _).trans (List.sublist_append_left _ _))) ?_
  apply VL_buildSlice1; exact .none; exact rfl; exact rfl; exact rfl; exact rfl; exact rfl; exact rfl; exact rfl
  intro bz
  apply VL_call; exact .none; exact rfl; exact rfl
  · intro w1 s; exact two w1 A3 (some ⟨bz, 0, none⟩) c3 1 fb [0] (s.rdO (k := 0) rfl h3) (s.rdH (k := 1) rfl) (by simp; omega)
  rintro w1 v w2 s ⟨e8, A8, c8, rfl, h8, t⟩
  refine ⟨_, _, s.comp0 t, ?_⟩
  apply VL_call; exact .none; exact rfl; exact rfl
  · intro w1 s
    have q := parseFrame w1 A8 c8 (fb ++ [0]) (s.rdO (k := 2) rfl h8) (by simp; omega)
    rw [hP3] at q; dsimp only at q; exact q
  rintro w1 v w2 s ⟨e9, es9, A9, c9, rs9, rfl, h9, t⟩
  refine ⟨_, _, s.comp0 t, ?_⟩
  repeat (first | refine st ?_ | (refine sa ?_; intro _))
  exact VE_ret1 rfl rfl (fun w s => ⟨_, rfl, rfl, s.drop⟩)
end Go.Proofs.YtpboahlpgfglkaaDoor.X
