/-
  Contracts: lists of lists with marked room looked at; the statement CodecFrames.
-/
import Derived.Test.YtpboahlpgfglkaaDoorF35
namespace Go.Proofs.YtpboahlpgfglkaaDoor.X
open Go Go.RowKit
set_option linter.unusedVariables false
set_option linter.unusedSimpArgs false
set_option maxRecDepth 100000

structure KeptIn (w : World) (A : Option Addr) (ca n : Nat) (rs : List Row) : Prop where
  rd : Rd w A (rs.map Row.val)
  cap : n + 3 ≤ ca
  len : rs.length = n + 3
  each : ∀ (j : Nat) (r : Row), rs[j]? = some r → (j < n → r.l.length + 80 ≤ r.c ∧ Rd w r.A ((r.l ++ marks r.l.length).map u8)) ∧ (n ≤ j → r.l = [UInt8.ofNat j, 119] ∧ Rd w r.A (r.l.map u8))
set_option maxHeartbeats 1000000 in
theorem keptRows (w : World) (A B : Option Addr) (ca cb : Nat) (rs rows : List Row) (hA : KeptIn w A ca rows.length rs) (hB : RdRows w B rows) (he : (rs.take rows.length).map Row.l = rows.map Row.l) (hn : rows.length * 24 ≤ 140737488351232) (hl : ∀ r ∈ rows, r.l.length ≤ 140737488351232) :
    Calls Tryd.prog 29 #[.slice A rows.length ca, .slice B rows.length cb] w (Ret fun v w' => v = .bool true ∧ St w [] [] w') := by
  have hA1 := hA.rd
  have hB1 := hB.rd
  have hlen := hA.len
  have hcap := hA.cap
  have hml : (rs.map Row.val).length = rows.length + 3 := by rw [List.length_map]; exact hlen
  refine enter (args := [_, _]) Tryd.func29 rfl rfl rfl ?_
  repeat (first | refine st ?_ | (refine sa ?_; intro _))
  refine VC_loop ⟨fun k : Nat => k ≤ rows.length, fun k => [(0, .slice A rows.length ca), (1, .slice B rows.length cb), (5, i64 (k : Int))], fun _ => [], fun _ => []⟩ (fun k => rows.length - k) 0 (by simp) ⟨rfl, rfl, rfl, trivial⟩ (fun _ s => s) ?_
  rintro k hk
  dsimp only at hk ⊢
  by_cases hkn : k < rows.length
  · obtain ⟨r, hr⟩ : ∃ r, rs[k]? = some r := ⟨rs[k]'(by omega), List.getElem?_eq_getElem _⟩
    obtain ⟨q, hq⟩ : ∃ q, rows[k]? = some q := ⟨rows[k]'hkn, List.getElem?_eq_getElem _⟩
    have hrq : r.l = q.l := by
      have e2 : (rows.map Row.l)[k]? = some q.l := by rw [List.getElem?_map, hq]; rfl
      have e1 : ((rs.take rows.length).map Row.l)[k]? = some r.l := by rw [List.getElem?_map, List.getElem?_take, if_pos hkn, hr]; rfl
      rw [he] at e1
      exact Option.some.inj (e1.symm.trans e2)
    obtain ⟨hrc, hrr⟩ := (hA.each k r hr).1 hkn
    have hqr := hB.each q (List.mem_of_getElem? hq)
    have hql := hl q (List.mem_of_getElem? hq)
    rw [← hrq] at hqr hql
    have lq : ∀ w2, St w [] [] w2 → w2.cell? (adr B k) = some (.slice q.A r.l.length q.c) := fun w2 s2 => by
      have := s2.ocell (hB1.cell (get_row hq))
      rw [Row.val, ← hrq] at this; exact this
    have sA : Safe A := hA1.safe0 (by omega)
    have sB : Safe B := hB1.safe0 (by rw [List.length_map]; omega)
    repeat (first | refine st ?_ | (refine sa ?_; intro _))
    refine VC_draw (S := fun w' => St w [] [] w') mixed (fun _ s => s) ?_
    refine tk 0 ?_
    refine tk 1 ?_
    refine tk (v := .pointer (some (adr A k))) 2 ?_ (hS := fun w1 h1 => ⟨_, h1, Y_indexAddr_slice1 (len := rows.length) (cap := ca) (i' := k) rfl rfl rfl hkn sA⟩)
    refine tk (v := r.val) 3 ?_ (hS := fun w1 h1 => ⟨_, h1, Y_load rfl rfl (fun w2 s2 => s2.ocell (hA1.cell (get_row hr)))⟩)
    refine tk 4 ?_
    refine tk 5 ?_
    refine tk (v := .pointer (some (adr B k))) 6 ?_ (hS := fun w1 h1 => ⟨_, h1, Y_indexAddr_slice1 (len := rows.length) (cap := cb) (i' := k) rfl rfl rfl hkn sB⟩)
    refine tk (v := .slice q.A r.l.length q.c) 7 ?_ (hS := fun w1 h1 => ⟨_, h1, Y_load rfl rfl lq⟩)
    apply VA_step 8; exact rfl; kernel_rfl
    apply VL_call; exact .none; exact rfl; exact rfl
    · intro w1 s; exact keptT w1 r.A q.A r.c q.c r.l (s.rd hrr) hrc (s.rd hqr) (by omega)
    rintro w1 v w2 s ⟨rfl, t⟩
    refine ⟨_, _, s.comp t, ?_⟩
    refine VL_nil (VA_back (fun w s => s) ?_)
    refine tk 9 ?_
    refine VA_done (by kernel_rfl) ?_
    repeat (first | refine st ?_ | (refine sa ?_; intro _))
    exact VE_fam (k + 1) (by (try dsimp only); omega) (by (try dsimp only); omega) ⟨rfl, rfl, rfl, trivial⟩ (fun _ s => s)
  have hk' : k = rows.length := by omega
  subst hk'
  repeat (first | refine st ?_ | (refine sa ?_; intro _))
  refine VL_slice_hi (i' := rows.length + 3) .none rfl rfl (by omega) (by omega) (hA1.spot (by omega)) rfl ?_
  repeat (first | refine st ?_ | (refine sa ?_; intro _))
  refine VC_loop ⟨fun k : Nat => k ≤ 3, fun k => [(6, .slice A (rows.length + 3) ca), (7, i64 ((rows.length + k : Nat) : Int))], fun _ => [], fun _ => []⟩ (fun k => 3 - k) 0 (by simp) ⟨rfl, rfl, trivial⟩ (fun _ s => s) ?_
  rintro k hk
  dsimp only at hk ⊢
  by_cases hk3 : k < 3
  rotate_left
  · have hk' : k = 3 := by omega
    subst hk'
    repeat (first | refine st ?_ | (refine sa ?_; intro _))
    exact VE_ret1 rfl rfl (fun w s => ⟨_, rfl, rfl, s⟩)
  obtain ⟨r, hr⟩ : ∃ r, rs[rows.length + k]? = some r := ⟨rs[rows.length + k]'(by omega), List.getElem?_eq_getElem _⟩
  obtain ⟨hrl, hrr⟩ := (hA.each _ r hr).2 (by omega)
  have h2 : r.l.length = 2 := by rw [hrl]; rfl
  have sA : Safe A := hA1.safe0 (by omega)
  have sr : Safe r.A := hrr.safe0 (by rw [List.length_map]; omega)
  have c0 : ∀ w', St w [] [] w' → w'.cell? (adr r.A 0) = some (u8 (UInt8.ofNat (rows.length + k))) := fun w' s => s.ocell (hrr.cell (by rw [hrl]; rfl))
  have c1 : ∀ w', St w [] [] w' → w'.cell? (adr r.A 1) = some (u8 119) := fun w' s => s.ocell (hrr.cell (by rw [hrl]; rfl))
  have lr : ∀ w', St w [] [] w' → w'.cell? (adr A (rows.length + k)) = some (.slice r.A 2 r.c) := fun w' s => by
    have := s.ocell (hA1.cell (get_row hr))
    rw [Row.val, h2] at this; exact this
  clear hrl hrr h2 hr hA1 hB1 hA hB
  repeat (first | refine st ?_ | (refine sa ?_; intro _))
  apply VL_indexAddr_slice1 (i' := rows.length + k); exact .none; exact rfl; exact rfl; exact rfl; omega; exact sA; exact rfl
  apply VL_load; exact .none; exact rfl; exact rfl; exact lr; exact rfl
  repeat (first | refine st ?_ | (refine sa ?_; intro _))
  apply VL_indexAddr_slice1 (i' := rows.length + k); exact .yes rfl rfl; exact rfl; exact rfl; exact rfl; omega; exact sA; exact rfl
  apply VL_load; exact .yes rfl rfl; exact rfl; exact rfl; exact lr; exact rfl
  apply VL_indexAddr_slice1 (i' := 0); exact .yes rfl rfl; exact rfl; exact rfl; exact rfl; omega; exact sr; exact rfl
  apply VL_load; exact .yes rfl rfl; exact rfl; exact rfl; exact c0; exact rfl
  refine st ?_
  refine st ?_
  apply VL_bin (v := .bool false); exact .yes rfl rfl; exact rfl; exact rfl; (rw [b8_neq]; simp); exact rfl
  repeat (first | refine st ?_ | (refine sa ?_; intro _))
  apply VL_indexAddr_slice1 (i' := rows.length + k); exact .yes rfl rfl; exact rfl; exact rfl; exact rfl; omega; exact sA; exact rfl
  apply VL_load; exact .yes rfl rfl; exact rfl; exact rfl; exact lr; exact rfl
  apply VL_indexAddr_slice1 (i' := 1); exact .yes rfl rfl; exact rfl; exact rfl; exact rfl; omega; exact sr; exact rfl
  apply VL_load; exact .yes rfl rfl; exact rfl; exact rfl; exact c1; exact rfl
  apply VL_bin (v := .bool false); exact .yes rfl rfl; exact rfl; exact rfl; exact rfl; exact rfl
  repeat (first | refine st ?_ | (refine sa ?_; intro _))
  exact VE_fam (k + 1) (by (try dsimp only); omega) (by (try dsimp only); omega) ⟨rfl, rfl, trivial⟩ (fun _ s => s)

theorem St.swap3 {w0 w : World} {M : Mem} {X : List Ent} {a b d : Ent} (s : St w0 M (a :: b :: d :: X) w) : St w0 M (d :: a :: b :: X) w := by
  refine s.sub (fun i => match i with | 0 => 2 | 1 => 0 | 2 => 1 | i => i) (fun k b o hk => ?_) (fun i j hi hj h => ?_)
  · rcases k with _ | _ | _ | k <;> simpa using hk
  · rcases i with _ | _ | _ | i <;> rcases j with _ | _ | _ | j <;> (try simp at h) <;> (try omega)
theorem St.four {w0 w : World} {M : Mem} {X : List Ent} {a b c d : Ent} (s : St w0 M (X ++ [a] ++ [b] ++ [c] ++ [d]) w) : St w0 M (d :: ([a, b] ++ X)) w := by
  have s1 : St w0 M ((X ++ [a] ++ [b]) ++ [d]) w := s.perm (List.Sublist.append (List.sublist_append_left _ _) (List.Sublist.refl _))
  have s2 : St w0 M ((d :: (X ++ [a])) ++ [b]) w := s1.rot
  have s3 : St w0 M ((b :: d :: X) ++ [a]) w := s2.rot
  exact s3.rot.swap3
theorem St.back {w0 w : World} {M : Mem} {L : List Ent} {x y : Ent} (s : St w0 M (x :: y :: L) w) : St w0 M (x :: (L ++ [y])) w := by
  have lt : ∀ (k : Nat) (q : Ent), (x :: (L ++ [y]))[k]? = some q → k < L.length + 2 := fun k q h => by
    rcases Nat.lt_or_ge k (L.length + 2) with h' | h'
    · exact h'
    · rw [List.getElem?_eq_none (by simp; omega)] at h; simp at h
  refine s.sub (fun i => if i = 0 then 0 else if i = L.length + 1 then 1 else i + 1) (fun k b o hk => ?_) (fun i j hi hj h => ?_)
  · have := lt k _ hk
    cases k with
    | zero => simpa using hk
    | succ k =>
      rw [List.getElem?_cons_succ] at hk
      rw [if_neg (by omega)]
      by_cases hkl : k = L.length
      · subst hkl
        rw [if_pos rfl]
        simp at hk
        simp [hk]
      · rw [if_neg (by omega), List.getElem?_cons_succ, List.getElem?_cons_succ]
        rw [List.getElem?_append_left (by omega)] at hk; exact hk
  · simp only [List.length_cons, List.length_append, List.length_nil] at hi hj
    split at h <;> split at h <;> (try split at h) <;> (try split at h) <;> omega
theorem OwnRows.append {es es' : List Ent} {rs rs' : List Row} (h : OwnRows es rs) (h' : OwnRows es' rs') : OwnRows (es ++ es') (rs ++ rs') := by
  refine ⟨by simp [h.len, h'.len], fun j e r he hr => ?_⟩
  by_cases hj : j < es.length
  · rw [List.getElem?_append_left hj] at he
    rw [List.getElem?_append_left (by rw [← h.len]; exact hj)] at hr
    exact h.each j e r he hr
  · rw [List.getElem?_append_right (by omega)] at he
    rw [List.getElem?_append_right (by rw [← h.len]; omega), ← h.len] at hr
    exact h'.each _ e r he hr
theorem OwnRows.take {es : List Ent} {rs : List Row} (h : OwnRows es rs) (n : Nat) : OwnRows (es.take n) (rs.take n) := by
  refine ⟨by simp [h.len], fun j e r he hr => ?_⟩
  rw [List.getElem?_take] at he hr
  split at he
  · rename_i hj
    rw [if_pos hj] at hr
    exact h.each j e r he hr
  · simp at he
theorem flat88' : ∀ (ls : List (List UInt8)), (∀ l ∈ ls, l.length = 88) → ls.flatten.length = 88 * ls.length
  | [], _ => rfl
  | l :: ls, h => by
    have ih := flat88' ls (fun q hq => h q (by simp [hq]))
    have h0 := h l (by simp)
    simp only [List.flatten_cons, List.length_append, List.length_cons] at ih ⊢
    omega
theorem frameF_le (n : Int) (ls : List (List UInt8)) : (frameF n ls).1.length ≤ 30000 := by
  unfold frameF
  split
  · split
    · split
      · rename_i h
        have := flat88' ls h
        dsimp only; rw [List.length_append, List.length_append, le_length, le_length, this]; omega
      · simp
    · simp
  · simp
theorem frameParsed_le (l : List UInt8) : (frameParsed l).2.1.length ≤ 256 ∧ ∀ r ∈ (frameParsed l).2.1, r.length ≤ 88 := by
  unfold frameParsed
  split
  · rename_i h
    refine ⟨by dsimp only; rw [frameRows_length]; exact h.2.2.2.1, ?_⟩
    intro r hr
    dsimp only at hr
    unfold frameRows at hr
    obtain ⟨i, -, rfl⟩ := List.mem_map.1 hr
    simp; omega
  · exact ⟨by simp, fun r hr => by simp at hr⟩
end Go.Proofs.YtpboahlpgfglkaaDoor.X
