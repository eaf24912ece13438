/-
  Contracts: marks; do lists share memory?
-/
import Derived.Test.YtpboahlpgfglkaaDoorX12
import Derived.Test.YtpboahlpgfglkaaDoorF23
namespace Go.Proofs.YtpboahlpgfglkaaDoor.X
open Go Go.RowKit
set_option linter.unusedVariables false
set_option linter.unusedSimpArgs false
set_option maxRecDepth 100000

def markB (i k : Nat) : UInt8 := UInt8.ofNat (i * 31 + k * 7 + 1)
def markRow (i n : Nat) : List UInt8 := (List.range n).map (markB i)
theorem markRow_length (i n : Nat) : (markRow i n).length = n := by simp [markRow]
theorem markRow_succ (i n : Nat) : markRow i (n + 1) = markRow i n ++ [markB i n] := by simp [markRow, List.range_succ]
theorem markRow_get (i n k : Nat) (h : k < n) : (markRow i n).getD k 0 = markB i k := by simp [markRow, List.getD, h]
theorem markRow_cell (i n k : Nat) (h : k < n) : ((markRow i n).map u8)[k]? = some (u8 (markB i k)) := by
  rw [get_u8 (by rw [markRow_length]; exact h), markRow_get _ _ _ h]
theorem markRow_take (i n k : Nat) (h : k ≤ n) : (markRow i n).take k = markRow i k := by
  unfold markRow
  rw [← List.map_take, List.take_range, Nat.min_eq_left h]
theorem mark (w : World) (i k : Nat) (hi : i ≤ 140737488355328) (hk : k ≤ 281474976710656) :
    Calls Tryd.prog 68 #[i64 (i : Int), i64 (k : Int)] w (Ret fun v w' => v = u8 (markB i k) ∧ St w [] [] w') := by
  refine enter (args := [_, _]) Tryd.func68 rfl rfl rfl ?_
  repeat (first | refine st ?_ | (refine sa ?_; intro _))
  exact VE_ret1 rfl rfl (fun w s => ⟨_, rfl, rfl, s⟩)

/-- of each of some blocks -/
def All1 (Q : Nat → Row → Ent → Prop) (es : List Ent) (rows : List Row) : Prop := es.length = rows.length ∧ ∀ (j : Nat) (e : Ent) (r : Row), es[j]? = some e → rows[j]? = some r → Q j r e
theorem All1.mono {Q Q' : Nat → Row → Ent → Prop} {es rows} (h : All1 Q es rows) (hq : ∀ j r e, rows[j]? = some r → Q j r e → Q' j r e) : All1 Q' es rows := ⟨h.1, fun j e r he hr => hq j r e hr (h.2 j e r he hr)⟩
theorem All1.set {Q Q' : Nat → Row → Ent → Prop} {es rows i r e'} (h : All1 Q es rows) (hr : rows[i]? = some r) (hq : Q' i r e') (hq' : ∀ j r e, j ≠ i → Q j r e → Q' j r e) : All1 Q' (es.set i e') rows := by
  refine ⟨by simp [h.1], fun j e r' he hr' => ?_⟩
  by_cases hj : i = j
  · subst hj
    rw [hr] at hr'
    obtain rfl := Option.some.inj hr'
    have : e = e' := by
      rw [List.getElem?_set] at he
      split at he
      · split at he
        · simpa using he.symm
        · simp at he
      · rename_i h'; exact absurd rfl h'
    rw [this]; exact hq
  · rw [List.getElem?_set, if_neg hj] at he
    exact hq' j r' e (fun x => hj x.symm) (h.2 j e r' he hr')
theorem All1.get {Q : Nat → Row → Ent → Prop} {es rows i r} (h : All1 Q es rows) (hr : rows[i]? = some r) : ∃ e, es[i]? = some e ∧ Q i r e ∧ i < es.length := by
  have hi : i < rows.length := by
    rcases Nat.lt_or_ge i rows.length with h' | h'
    · exact h'
    · rw [List.getElem?_eq_none h'] at hr; simp at hr
  have hi' : i < es.length := by rw [h.1]; exact hi
  exact ⟨es[i], List.getElem?_eq_getElem hi', h.2 i _ r (List.getElem?_eq_getElem hi') hr, hi'⟩
def Q1 (i k j : Nat) (r : Row) (e : Ent) : Prop := ∃ l : List UInt8, l.length = r.l.length ∧ (j < i → l = markRow j r.l.length) ∧ (j = i → l.take k = markRow i k) ∧ OwnSl e r.A r.c 5 (l.map u8)
def Q2 (j : Nat) (r : Row) (e : Ent) : Prop := ∃ l : List UInt8, OwnSl e r.A r.c 5 ((markRow j r.l.length ++ l).map u8)
theorem own_all {es : List Ent} {rows : List Row} (h : OwnRows es rows) : All1 (Q1 0 0) es rows :=
  ⟨h.len, fun j e r he hr => ⟨r.l, rfl, fun h => absurd h (by omega), fun _ => by simp [markRow], h.each j e r he hr⟩⟩
theorem at_own {x : Ent} {es K T : List Ent} {i : Nat} {e : Ent} (h : es[i]? = some e) : ((x :: (es ++ K)) ++ T)[i + 1]? = some e := by
  have hi : i < es.length := by
    rcases Nat.lt_or_ge i es.length with h' | h'
    · exact h'
    · rw [List.getElem?_eq_none h'] at h; simp at h
  rw [List.cons_append, List.getElem?_cons_succ, List.append_assoc, List.getElem?_append_left hi]; exact h
theorem at_own0 {x : Ent} {es K : List Ent} {i : Nat} {e : Ent} (h : es[i]? = some e) : (x :: (es ++ K))[i + 1]? = some e := by
  have := at_own (x := x) (K := K) (T := []) h
  rwa [List.append_nil] at this
theorem set_own {x : Ent} {es K T : List Ent} {i : Nat} {e' : Ent} (hi : i < es.length) : ((x :: (es ++ K)) ++ T).set (i + 1) e' = (x :: (es.set i e' ++ K)) ++ T := by
  rw [List.cons_append, List.set_cons_succ, List.append_assoc, List.set_append_left _ _ hi, List.cons_append, List.append_assoc]
theorem set_own0 {x : Ent} {es K : List Ent} {i : Nat} {e' : Ent} (hi : i < es.length) : (x :: (es ++ K)).set (i + 1) e' = x :: (es.set i e' ++ K) := by
  rw [List.set_cons_succ, List.set_append_left _ _ hi]
theorem take_set8 {l : List UInt8} {k : Nat} {m : UInt8} (h : k < l.length) : (l.set k m).take (k + 1) = l.take k ++ [m] := by
  rw [take_snoc8 (by simpa using h), List.take_set_of_le (Nat.le_refl k)]
  simp [List.getD, h]
theorem at_mid {X T : List Ent} {e : Ent} : (X ++ e :: T)[X.length]? = some e := by simp
theorem at_mid1 {X T : List Ent} {e e' : Ent} : (X ++ e :: e' :: T)[X.length + 1]? = some e' := by
  rw [List.getElem?_append_right (by omega), show X.length + 1 - X.length = 1 by omega]; rfl
theorem at_mid2 {X Y : List Ent} {e e' : Ent} : (X ++ e :: (Y ++ [e']))[X.length + 1 + Y.length]? = some e' := by
  rw [List.getElem?_append_right (by omega), show X.length + 1 + Y.length - X.length = Y.length + 1 by omega, List.getElem?_cons_succ]; simp
theorem set_mid {X T : List Ent} {e e' : Ent} : (X ++ e :: T).set X.length e' = X ++ e' :: T := by simp

/-- where a grown list lies -/
def Sup (es gs : List Ent) (rows gr : List Row) : Prop := ∀ (j : Nat) (q : Row), gr[j]? = some q → ∃ r, rows[j]? = some r ∧ q.l = markRow j (r.l.length + 70) ∧
  ((∃ e, es[j]? = some e ∧ OwnSl e q.A q.c 5 (q.l.map u8)) ∨ ∃ (m : Nat) (e : Ent), gs[m]? = some e ∧ OwnSl e q.A q.c 5 (q.l.map u8))
abbrev G : Type := Option (Ent × Option Addr × Nat)
def G.ents : G → List Ent
  | none => []
  | some g => [g.1]
def G.row (g : G) (r : Row) (l : List UInt8) : Row := match g with
  | none => ⟨r.A, r.c, l⟩
  | some g => ⟨g.2.1, g.2.2, l⟩
def G.val (g : G) (r : Row) (n : Nat) : Value := match g with
  | none => .slice r.A n r.c
  | some g => .slice g.2.1 n g.2.2
theorem G.val_row (g : G) (r : Row) (l : List UInt8) : (g.row r l).val = g.val r l.length := by cases g <;> rfl
theorem OwnSl.cut {e : Ent} {A : Option Addr} {c T : Nat} {vs us : List Value} (h : OwnSl e A c T (vs ++ us)) : OwnSl e A c T vs := by
  rcases h with ⟨h1, h2, h3, h4⟩ | ⟨b, junk, fr, h1, h2, h3, h4⟩
  · exact .inl ⟨h1, h2, h3, (List.append_eq_nil_iff.1 h4).1⟩
  · exact .inr ⟨b, us ++ junk, fr, by rw [h1, List.append_assoc], h2, by rw [h3]; simp; omega, h4⟩
theorem set_same {es : List Ent} {i : Nat} {e : Ent} (h : es[i]? = some e) : es.set i e = es := by
  apply List.ext_getElem?
  intro j
  rw [List.getElem?_set]
  split
  · subst_vars
    split
    · exact h.symm
    · rename_i h'; rw [List.getElem?_eq_none (by omega)]
  · rfl
def G.ok (g : G) (i : Nat) (r : Row) (e : Ent) (n : Nat) : Prop := match g with
  | none => OwnSl e r.A r.c 5 ((markRow i n).map u8)
  | some g => OwnSl g.1 g.2.1 g.2.2 5 ((markRow i n).map u8) ∧ Q2 i r e
theorem G.q2 {g : G} {i : Nat} {r : Row} {e : Ent} {k : Nat} (h : g.ok i r e (r.l.length + k)) : Q2 i r e := by
  cases g with
  | none =>
    refine ⟨(markRow i (r.l.length + k)).drop r.l.length, ?_⟩
    rw [← markRow_take i (r.l.length + k) r.l.length (by omega), List.take_append_drop]; exact h
  | some g => exact h.2

set_option maxHeartbeats 8000000 in
theorem apart (w0 w : World) (eo : Ent) (OA : Option Addr) (oc : Nat) (rows : List Row) (es K : List Ent) (hs : St w0 [] (eo :: (es ++ K)) w) (ho : OwnSl eo OA oc 32 (rows.map Row.val)) (hr : OwnRows es rows)
    (hn : rows.length * 24 ≤ 140737488351232) (hl : ∀ r ∈ rows, r.l.length ≤ 140737488351232) :
    Calls Tryd.prog 30 #[.slice OA rows.length oc] w (Ret fun v w' => v = .bool true ∧ St w0 [] K w') := by
  refine enterH (args := [_]) Tryd.func30 rfl rfl rfl hs ?_
  have rd0 : ∀ w' H, St w0 [] (eo :: H) w' → Rd w' OA (rows.map Row.val) := fun w' H s => s.rdO (k := 0) rfl ho
  repeat (first | refine st ?_ | (refine sa ?_; intro _))
  -- the first loop
  refine VC_cutB ⟨fun es : List Ent => All1 (Q1 rows.length 0) es rows, fun es => [(0, .slice OA rows.length oc)], fun _ => [], fun es => eo :: (es ++ K)⟩ ?_ ?_
  · refine VC_loop ⟨fun i : Nat × List Ent => i.1 ≤ rows.length ∧ All1 (Q1 i.1 0) i.2 rows, fun i => [(0, .slice OA rows.length oc), (3, i64 (i.1 : Int))], fun _ => [], fun i => eo :: (i.2 ++ K)⟩ (fun i => rows.length - i.1) (0, es) ⟨by simp, own_all hr⟩ ⟨rfl, rfl, trivial⟩ (fun _ s => s) ?_
    rintro ⟨i, es⟩ ⟨hi, ha⟩
    dsimp only at hi ha ⊢
    by_cases hin : i < rows.length
    rotate_left
    · have hi' : i = rows.length := by omega
      subst hi'
      repeat (first | refine st ?_ | (refine sa ?_; intro _))
      exact VE_fam es ha trivial ⟨rfl, trivial⟩ (fun _ s => s)
    obtain ⟨r, hri⟩ : ∃ r, rows[i]? = some r := ⟨rows[i]'hin, List.getElem?_eq_getElem _⟩
    have hrl := hl r (List.mem_of_getElem? hri)
    have ld : ∀ w' H, St w0 [] (eo :: H) w' → w'.cell? (adr OA i) = some r.val := fun w' H s => (rd0 w' H s).cell (get_row hri)
    have sf : Safe OA := by
      rcases ho with ⟨-, -, -, h0⟩ | ⟨b, junk, fr, -, rfl, -, -⟩
      · have := congrArg List.length h0; rw [List.length_map, List.length_nil] at this; omega
      · exact ⟨b, 0, rfl⟩
    repeat (first | refine st ?_ | (refine sa ?_; intro _))
    refine VC_cutBB ⟨fun es : List Ent => All1 (Q1 (i + 1) 0) es rows, fun es => [(0, .slice OA rows.length oc), (3, i64 (i : Int))], fun _ => [], fun es => eo :: (es ++ K)⟩ ?_ ?_
    · refine VC_loop ⟨fun k : Nat × List Ent => k.1 ≤ r.l.length ∧ All1 (Q1 i k.1) k.2 rows, fun k => [(0, .slice OA rows.length oc), (3, i64 (i : Int)), (4, i64 (k.1 : Int))], fun _ => [], fun k => eo :: (k.2 ++ K)⟩ (fun k => r.l.length - k.1) (0, es) ⟨by simp, ha⟩ ⟨rfl, rfl, rfl, trivial⟩ (fun _ s => s) ?_
      rintro ⟨k, es⟩ ⟨hk, ha⟩
      dsimp only at hk ha ⊢
      obtain ⟨e, he, ⟨l, h1, h2, h3, h4⟩, hie⟩ := ha.get hri
      repeat (first | refine st ?_ | (refine sa ?_; intro _))
      apply VL_load; exact .none; exact rfl; exact rfl; exact fun w s => ld w _ s; exact rfl
      by_cases hkn : k < r.l.length
      rotate_left
      · have hk' : k = r.l.length := by omega
        subst hk'
        repeat (first | refine st ?_ | (refine sa ?_; intro _))
        refine VE_fam es ?_ trivial ⟨rfl, rfl, trivial⟩ (fun _ s => s)
        refine ha.mono ?_
        rintro j r' e' hj' ⟨l', g1, g2, g3, g4⟩
        refine ⟨l', g1, fun hj => ?_, fun hj => by simp [markRow], g4⟩
        by_cases hji : j = i
        · subst hji
          rw [hri] at hj'
          obtain rfl := Option.some.inj hj'
          have := g3 rfl
          rwa [List.take_of_length_le (by omega)] at this
        · exact g2 (by omega)
      repeat (first | refine st ?_ | (refine sa ?_; intro _))
      have sfr : Safe r.A := h4.safe0 (by rw [List.length_map]; omega)
      refine VC_draw (S := fun w' => St w0 [] [eo] w') mixed (fun _ s => s.pick [0] (by decide)) ?_
      refine tk 0 ?_
      refine tk 1 ?_
      refine tk 2 ?_
      refine tk (v := r.val) 3 ?_ (hS := fun w1 h1 => ⟨_, h1, Y_load rfl rfl (fun w2 s2 => ld w2 _ s2)⟩)
      refine tk 4 ?_
      refine tk 5 ?_
      refine tk 6 ?_
      apply VA_step 7; exact rfl; kernel_rfl
      apply VL_call; exact .none; exact rfl; exact rfl
      · intro w1 s; exact mark w1 i k (by omega) (by omega)
      rintro w1 v w2 s ⟨rfl, t⟩
      refine ⟨_, _, s.comp t, ?_⟩
      refine VL_nil (VA_back (fun w s => s.pick [0] (by decide)) ?_)
      refine tk (v := .pointer (some (adr r.A k))) 8 ?_ (hS := fun w1 h1 => ⟨_, h1, Y_indexAddr_slice1 (len := r.l.length) (cap := r.c) (i' := k) rfl rfl rfl hkn sfr⟩)
      apply VA_step 9; exact rfl; kernel_rfl
      refine VL_storeO (p := i + 1) (vs := l.map u8) .none rfl rfl rfl (at_own0 he) h4 (by rw [List.length_map]; omega) (fun e' h5 => ?_)
      refine VL_nil (VA_back (fun w s => s.pick [0] (by decide)) ?_)
      refine VA_done (by kernel_rfl) ?_
      repeat (first | refine st ?_ | (refine sa ?_; intro _))
      refine VE_fam (k + 1, es.set i e') ⟨by dsimp only; omega, ?_⟩ (by dsimp only; omega) ⟨rfl, rfl, rfl, trivial⟩ (fun _ s => by rw [set_own0 hie] at s; exact s)
      refine ha.set hri ⟨l.set k (markB i k), by simpa using h1, fun hj => absurd hj (by omega), fun _ => ?_, ?_⟩ ?_
      · rw [take_set8 (by omega), h3 rfl, markRow_succ]
      · rw [List.map_set]; exact h5
      · rintro j r' e'' hj ⟨l', g1, g2, g3, g4⟩
        exact ⟨l', g1, g2, fun hj' => absurd hj' hj, g4⟩
    · rintro es' ha'
      dsimp only at ha' ⊢
      repeat (first | refine st ?_ | (refine sa ?_; intro _))
      exact VE_fam (i + 1, es') ⟨by dsimp only; omega, ha'⟩ (by dsimp only; omega) ⟨rfl, rfl, trivial⟩ (fun _ s => s)
  rintro es1 ha1
  dsimp only at ha1 ⊢
  have ha2 : All1 Q2 es1 rows := ha1.mono (fun j r e hj ⟨l, g1, g2, g3, g4⟩ => by
    have hjl : j < rows.length := by
      rcases Nat.lt_or_ge j rows.length with h' | h'
      · exact h'
      · rw [List.getElem?_eq_none h'] at hj; simp at hj
    refine ⟨[], ?_⟩
    rw [List.append_nil, ← g2 hjl]; exact g4)
  clear hr ha1 hs es
  repeat (first | refine st ?_ | (refine sa ?_; intro _))
  -- the second loop
  refine VC_cutB ⟨fun i : List Ent × Ent × Option Addr × Nat × List Ent × List Row => All1 Q2 i.1 rows ∧ i.2.2.2.2.2.length = rows.length ∧ OwnSl i.2.1 i.2.2.1 i.2.2.2.1 32 (i.2.2.2.2.2.map Row.val) ∧ Sup i.1 i.2.2.2.2.1 rows i.2.2.2.2.2,
    fun i => [(0, .slice OA rows.length oc), (5, .slice i.2.2.1 rows.length i.2.2.2.1)], fun _ => [], fun i => (eo :: (i.1 ++ K)) ++ i.2.1 :: i.2.2.2.2.1⟩ ?_ ?_
  · refine VC_loop ⟨fun i : Nat × List Ent × Ent × Option Addr × Nat × List Ent × List Row => i.1 ≤ rows.length ∧ All1 Q2 i.2.1 rows ∧ i.2.2.2.2.2.2.length = i.1 ∧ OwnSl i.2.2.1 i.2.2.2.1 i.2.2.2.2.1 32 (i.2.2.2.2.2.2.map Row.val) ∧ Sup i.2.1 i.2.2.2.2.2.1 rows i.2.2.2.2.2.2,
      fun i => [(0, .slice OA rows.length oc), (5, .slice i.2.2.2.1 i.1 i.2.2.2.2.1), (6, i64 (i.1 : Int))], fun _ => [], fun i => (eo :: (i.2.1 ++ K)) ++ i.2.2.1 :: i.2.2.2.2.2.1⟩ (fun i => rows.length - i.1) (0, es1, none, none, 0, [], []) ⟨by simp, ha2, rfl, OwnSl.nil _, fun j q h => by simp at h⟩ ⟨rfl, rfl, rfl, trivial⟩ (fun _ s => s.none) ?_
    rintro ⟨i, es, eg, GA, gc, gs, gr⟩ ⟨hi, ha, hgl, hog, hsup⟩
    dsimp only at hi ha hgl hog hsup ⊢
    by_cases hin : i < rows.length
    rotate_left
    · have hi' : i = rows.length := by omega
      subst hi'
      repeat (first | refine st ?_ | (refine sa ?_; intro _))
      exact VE_fam (es, eg, GA, gc, gs, gr) ⟨ha, hgl, hog, hsup⟩ trivial ⟨rfl, rfl, trivial⟩ (fun _ s => s)
    obtain ⟨r, hri⟩ : ∃ r, rows[i]? = some r := ⟨rows[i]'hin, List.getElem?_eq_getElem _⟩
    have hrl := hl r (List.mem_of_getElem? hri)
    have ld : ∀ w' H, St w0 [] (eo :: H) w' → w'.cell? (adr OA i) = some r.val := fun w' H s => (rd0 w' H s).cell (get_row hri)
    have sf : Safe OA := by
      rcases ho with ⟨-, -, -, h0⟩ | ⟨b, junk, fr, -, rfl, -, -⟩
      · have := congrArg List.length h0; rw [List.length_map, List.length_nil] at this; omega
      · exact ⟨b, 0, rfl⟩
    obtain ⟨e0, he0, ⟨x0, h0⟩, hie⟩ := ha.get hri
    repeat (first | refine st ?_ | (refine sa ?_; intro _))
    apply VL_load; exact .none; exact rfl; exact rfl; exact fun w s => ld w _ s; exact rfl
    repeat (first | refine st ?_ | (refine sa ?_; intro _))
    have hq2 : OwnSl e0 r.A r.c 5 ((markRow i r.l.length).map u8) := by rw [List.map_append] at h0; exact h0.cut
    refine VC_cutB ⟨fun x : Ent × G => x.2.ok i r x.1 (r.l.length + 70), fun x => [(0, .slice OA rows.length oc), (5, .slice GA i gc), (6, i64 (i : Int)), (7, x.2.val r (r.l.length + 70))], fun _ => [], fun x => (eo :: (es.set i x.1 ++ K)) ++ eg :: (gs ++ x.2.ents)⟩ ?_ ?_
    · refine VC_loop ⟨fun x : Nat × Ent × G => x.1 ≤ 70 ∧ x.2.2.ok i r x.2.1 (r.l.length + x.1), fun x => [(0, .slice OA rows.length oc), (5, .slice GA i gc), (6, i64 (i : Int)), (7, x.2.2.val r (r.l.length + x.1)), (8, i64 (x.1 : Int))], fun _ => [], fun x => (eo :: (es.set i x.2.1 ++ K)) ++ eg :: (gs ++ x.2.2.ents)⟩ (fun x => 70 - x.1) (0, e0, none) ⟨by simp, hq2⟩ ⟨rfl, rfl, rfl, rfl, rfl, trivial⟩ (fun _ s => by dsimp only; rw [set_same he0]; simpa [G.ents] using s) ?_
      rintro ⟨k, e, g⟩ ⟨hk, hg⟩
      dsimp only at hk hg ⊢
      by_cases hk70 : k < 70
      rotate_left
      · have hk' : k = 70 := by omega
        subst hk'
        repeat (first | refine st ?_ | (refine sa ?_; intro _))
        exact VE_fam (e, g) hg trivial ⟨rfl, rfl, rfl, rfl, trivial⟩ (fun _ s => s)
      repeat (first | refine st ?_ | (refine sa ?_; intro _))
      apply VL_load; exact .none; exact rfl; exact rfl; exact fun w s => ld w _ s; exact rfl
      repeat (first | refine st ?_ | (refine sa ?_; intro _))
      apply VL_call; exact .none; exact rfl; exact rfl
      · intro w1 s
        have q := mark w1 i (r.l.length + k) (by omega) (by omega)
        rw [Int.natCast_add] at q; exact q
      rintro w1 v w2 s ⟨rfl, t⟩
      refine ⟨_, _, s.comp t, ?_⟩
      apply VL_buildSlice1; exact .none; exact rfl; exact rfl; exact rfl; exact rfl; exact rfl; exact rfl; exact rfl
      intro bt
      have hml : ((markRow i (r.l.length + k)).map u8).length = r.l.length + k := by rw [List.length_map, markRow_length]
      have hms : (markRow i (r.l.length + k)).map u8 ++ [u8 (markB i (r.l.length + k))] = (markRow i (r.l.length + (k + 1))).map u8 := by rw [← Nat.add_assoc, markRow_succ, List.map_append]; rfl
      cases g with
      | none =>
        have hg' : OwnSl e r.A r.c 5 ((markRow i (r.l.length + k)).map u8) := hg
        refine VL_append2 (vs := (markRow i (r.l.length + k)).map u8) (news := [u8 (markB i (r.l.length + k))]) (p := i + 1) (r := r.l.length + k + 1) .none rfl rfl rfl (by rw [List.append_assoc]; exact at_own (by simp [hie])) hg' hml.symm (all_u8 _) rfl (by simp) (fun w s => s.rdH (get_last _ _)) rfl rfl (by rw [hml]; rfl) (by omega) rfl (fun e' h5 => ?_) (fun e' A' c' h5 => ?_)
        · rw [hms] at h5
          repeat (first | refine st ?_ | (refine sa ?_; intro _))
          refine VE_fam (k + 1, e', none) ⟨by dsimp only; omega, h5⟩ (by dsimp only; omega) ⟨rfl, rfl, rfl, rfl, rfl, trivial⟩ (fun _ s => ?_)
          rw [List.append_assoc, set_own (by simpa using hie), List.set_set] at s
          exact s.perm (List.Sublist.append (List.Sublist.refl _) (List.sublist_append_left _ _))
        · rw [hms] at h5
          repeat (first | refine st ?_ | (refine sa ?_; intro _))
          refine VE_fam (k + 1, e, some (e', A', c')) ⟨by dsimp only; omega, h5, G.q2 (g := none) hg⟩ (by dsimp only; omega) ⟨rfl, rfl, rfl, rfl, rfl, trivial⟩ (fun _ s => s.perm ?_)
          simp [G.ents]
      | some g =>
        obtain ⟨e2, A2, c2⟩ := g
        obtain ⟨hg', hq⟩ := hg
        dsimp only at hg'
        refine VL_H (M' := []) (H' := ((eo :: (es.set i e ++ K)) ++ eg :: gs) ++ e2 :: [Blk bt [u8 (markB i (r.l.length + k))] 5]) (fun w s => by simpa [G.ents] using s) ?_
        refine VL_append (vs := (markRow i (r.l.length + k)).map u8) (news := [u8 (markB i (r.l.length + k))]) (p := ((eo :: (es.set i e ++ K)) ++ eg :: gs).length) (r := r.l.length + k + 1) .none rfl rfl rfl at_mid hg' hml.symm (all_u8 _) rfl (fun w s => s.rdH (k := ((eo :: (es.set i e ++ K)) ++ eg :: gs).length + 1) at_mid1) rfl rfl (by rw [hml]; rfl) (by omega) rfl (fun e' A' c' h5 => ?_)
        rw [hms] at h5
        repeat (first | refine st ?_ | (refine sa ?_; intro _))
        refine VE_fam (k + 1, e, some (e', A', c')) ⟨by dsimp only; omega, h5, hq⟩ (by dsimp only; omega) ⟨rfl, rfl, rfl, rfl, rfl, trivial⟩ (fun _ s => ?_)
        rw [set_mid] at s
        refine s.perm ?_
        simp [G.ents]
    rintro ⟨e, g⟩ hg
    dsimp only at hg ⊢
    repeat (first | refine st ?_ | (refine sa ?_; intro _))
    apply VL_buildSlice1; exact .none; exact rfl; exact rfl; exact rfl; exact rfl; exact rfl; (cases g <;> rfl); exact rfl
    intro bq
    obtain ⟨q, hq⟩ : ∃ q, q = g.row r (markRow i (r.l.length + 70)) := ⟨_, rfl⟩
    have hqv : q.val = g.val r (r.l.length + 70) := by rw [hq, G.val_row, markRow_length]
    have hql : q.l = markRow i (r.l.length + 70) := by rw [hq]; cases g <;> rfl
    refine VL_H (M' := []) (H' := (eo :: (es.set i e ++ K)) ++ eg :: ((gs ++ g.ents) ++ [Blk bq [q.val] 32])) (fun w s => by rw [hqv]; simpa using s) ?_
    refine VL_append (vs := gr.map Row.val) (news := [q.val]) (p := (eo :: (es.set i e ++ K)).length) (r := i + 1) .none rfl rfl rfl at_mid hog (by simp [hgl]) (all_row _) rfl (fun w s => s.rdH (k := (eo :: (es.set i e ++ K)).length + 1 + (gs ++ g.ents).length) at_mid2) rfl rfl (by simp [hgl]) (by omega) rfl (fun e' A' c' h5 => ?_)
    repeat (first | refine st ?_ | (refine sa ?_; intro _))
    refine VE_fam (i + 1, es.set i e, e', A', c', gs ++ g.ents, gr ++ [q]) ⟨by dsimp only; omega, ?_, by simp [hgl], ?_, ?_⟩ (by dsimp only; omega) ⟨rfl, rfl, rfl, trivial⟩ (fun _ s => ?_)
    · exact ha.set hri (G.q2 hg) (fun j r e _ h => h)
    · dsimp only; rw [List.map_append]; exact h5
    · intro j q' hj
      dsimp only at hj
      by_cases hji : j < gr.length
      · rw [List.getElem?_append_left hji] at hj
        obtain ⟨r', h1, h2, h3⟩ := hsup j q' hj
        refine ⟨r', h1, h2, ?_⟩
        rcases h3 with ⟨e', h4, h5⟩ | ⟨m, e', h4, h5⟩
        · exact .inl ⟨e', by dsimp only; rw [List.getElem?_set, if_neg (by omega)]; exact h4, h5⟩
        · refine .inr ⟨m, e', ?_, h5⟩
          have hm : m < gs.length := by
            rcases Nat.lt_or_ge m gs.length with h' | h'
            · exact h'
            · rw [List.getElem?_eq_none h'] at h4; simp at h4
          dsimp only; rw [List.getElem?_append_left hm]; exact h4
      · have hj' : j = i := by
          have : j < (gr ++ [q]).length := by
            rcases Nat.lt_or_ge j (gr ++ [q]).length with h' | h'
            · exact h'
            · rw [List.getElem?_eq_none h'] at hj; simp at hj
          simp at this; omega
        subst hj'
        rw [List.getElem?_append_right (by omega), hgl, Nat.sub_self] at hj
        simp at hj
        subst hj
        refine ⟨r, hri, hql, ?_⟩
        rw [hql]
        cases g with
        | none => exact .inl ⟨e, by simp [hie], by rw [hq]; exact hg⟩
        | some g => exact .inr ⟨gs.length, g.1, by simp [G.ents], by rw [hq]; exact hg.1⟩
    · rw [set_mid] at s
      refine s.perm ?_
      simp
  rintro ⟨es, eg, GA, gc, gs, gr⟩ ⟨ha, hgl, hog, hsup⟩
  dsimp only at ha hgl hog hsup ⊢
  clear ha2 es1
  -- the third loop
  have fG : ∀ w', St w0 [] ((eo :: (es ++ K)) ++ eg :: gs) w' → Rd w' GA (gr.map Row.val) := fun w' s => s.rdO at_mid hog
  have fl : ∀ w', St w0 [] ((eo :: (es ++ K)) ++ eg :: gs) w' → ∀ (j : Nat) (r : Row), rows[j]? = some r → Rd w' r.A ((markRow j r.l.length).map u8) := by
    intro w' s j r hj
    obtain ⟨e, he, ⟨x, hx⟩, -⟩ := ha.get hj
    rw [List.map_append] at hx
    exact s.rdO (at_own he) hx.cut
  have fg : ∀ w', St w0 [] ((eo :: (es ++ K)) ++ eg :: gs) w' → ∀ (j : Nat) (q : Row), gr[j]? = some q → Rd w' q.A (q.l.map u8) := by
    intro w' s j q hj
    obtain ⟨r, -, -, h3⟩ := hsup j q hj
    rcases h3 with ⟨e, h4, h5⟩ | ⟨m, e, h4, h5⟩
    · exact s.rdO (at_own h4) h5
    · refine s.rdO (k := (eo :: (es ++ K)).length + 1 + m) ?_ h5
      rw [List.getElem?_append_right (by omega), show (eo :: (es ++ K)).length + 1 + m - (eo :: (es ++ K)).length = m + 1 by omega, List.getElem?_cons_succ]; exact h4
  repeat (first | refine st ?_ | (refine sa ?_; intro _))
  refine VC_loop ⟨fun i : Nat => i ≤ rows.length, fun i => [(0, .slice OA rows.length oc), (5, .slice GA rows.length gc), (9, i64 (i : Int))], fun _ => [], fun i => (eo :: (es ++ K)) ++ eg :: gs⟩ (fun i => rows.length - i) 0 (by simp) ⟨rfl, rfl, rfl, trivial⟩ (fun _ s => s) ?_
  rintro i hi
  dsimp only at hi ⊢
  by_cases hin : i < rows.length
  rotate_left
  · have hi' : i = rows.length := by omega
    subst hi'
    repeat (first | refine st ?_ | (refine sa ?_; intro _))
    exact VE_ret1 rfl rfl (fun w s => ⟨_, rfl, rfl, s.perm (by
      rw [List.cons_append, List.append_assoc]
      exact (List.sublist_append_left K _).trans ((List.sublist_append_right es _).trans (List.sublist_cons_self _ _)))⟩)
  obtain ⟨r, hri⟩ : ∃ r, rows[i]? = some r := ⟨rows[i]'hin, List.getElem?_eq_getElem _⟩
  obtain ⟨q, hqi⟩ : ∃ q, gr[i]? = some q := ⟨gr[i]'(by omega), List.getElem?_eq_getElem _⟩
  have hrl := hl r (List.mem_of_getElem? hri)
  obtain ⟨r', hr', hql, hqs⟩ := hsup i q hqi
  rw [hri] at hr'
  obtain rfl := Option.some.inj hr'
  have hqn : q.l.length = r.l.length + 70 := by rw [hql, markRow_length]
  have ld : ∀ w' H, St w0 [] (eo :: H) w' → w'.cell? (adr OA i) = some r.val := fun w' H s => (rd0 w' H s).cell (get_row hri)
  have lg : ∀ w', St w0 [] ((eo :: (es ++ K)) ++ eg :: gs) w' → w'.cell? (adr GA i) = some q.val := fun w' s => (fG w' s).cell (get_row hqi)
  have sf : Safe OA := by
    rcases ho with ⟨-, -, -, h0⟩ | ⟨b, junk, fr, -, rfl, -, -⟩
    · have := congrArg List.length h0; rw [List.length_map, List.length_nil] at this; omega
    · exact ⟨b, 0, rfl⟩
  have sg : Safe GA := hog.safe0 (by rw [List.length_map]; omega)
  have sq : Safe q.A := by
    rcases hqs with ⟨e, h4, h5⟩ | ⟨m, e, h4, h5⟩
    · exact h5.safe0 (by rw [List.length_map]; omega)
    · exact h5.safe0 (by rw [List.length_map]; omega)
  repeat (first | refine st ?_ | (refine sa ?_; intro _))
  refine VC_loop ⟨fun k : Nat => k ≤ r.l.length + 70, fun k => [(0, .slice OA rows.length oc), (5, .slice GA rows.length gc), (9, i64 (i : Int)), (10, i64 (k : Int))], fun _ => [], fun i => (eo :: (es ++ K)) ++ eg :: gs⟩ (fun k => r.l.length + 70 - k) 0 (by simp) ⟨rfl, rfl, rfl, rfl, trivial⟩ (fun _ s => s) ?_
  rintro k hk
  dsimp only at hk ⊢
  repeat (first | refine st ?_ | (refine sa ?_; intro _))
  apply VL_load; exact .none; exact rfl; exact rfl; exact fun w s => lg w s; exact rfl
  by_cases hkq : k < r.l.length + 70
  rotate_left
  · have hk' : k = r.l.length + 70 := by omega
    subst hk'
    repeat (first | refine st ?_ | (refine sa ?_; intro _))
    exact VE_fam (i + 1) (by (try dsimp only); omega) (by (try dsimp only); omega) ⟨rfl, rfl, rfl, trivial⟩ (fun _ s => s)
  repeat (first | refine st ?_ | (refine sa ?_; intro _))
  refine VC_draw (S := fun w' => St w0 [] ((eo :: (es ++ K)) ++ eg :: gs) w') mixed (fun _ s => s) ?_
  refine tk 0 ?_
  refine tk 1 ?_
  refine tk (v := .pointer (some (adr GA i))) 2 ?_ (hS := fun w1 h1 => ⟨_, h1, Y_indexAddr_slice1 (len := rows.length) (cap := gc) (i' := i) rfl rfl rfl hin sg⟩)
  refine tk (v := q.val) 3 ?_ (hS := fun w1 h1 => ⟨_, h1, Y_load rfl rfl (fun w2 s2 => lg w2 s2)⟩)
  refine tk 4 ?_
  refine tk (v := .pointer (some (adr q.A k))) 5 ?_ (hS := fun w1 h1 => ⟨_, h1, Y_indexAddr_slice1 (len := q.l.length) (cap := q.c) (i' := k) rfl rfl rfl (by omega) sq⟩)
  refine tk (v := u8 (markB i k)) 6 ?_ (hS := fun w1 h1 => ⟨_, h1, Y_load rfl rfl (fun w2 s2 => (fg w2 s2 i q hqi).cell (by rw [hql]; exact markRow_cell _ _ _ hkq))⟩)
  refine tk 7 ?_
  refine tk 8 ?_
  apply VA_step 9; exact rfl; kernel_rfl
  apply VL_call; exact .none; exact rfl; exact rfl
  · intro w1 s; exact mark w1 i k (by omega) (by omega)
  rintro w1 v w2 s ⟨rfl, t⟩
  refine ⟨_, _, s.comp t, ?_⟩
  refine VL_nil (VA_back (fun w s => s) ?_)
  have hne : binRes .neq .u8 ((markB i k).toNat : Int) .u8 ((markB i k).toNat : Int) = some (.bool false) := by rw [b8_neq]; simp
  refine tk (v := .bool false) 10 ?_ (hS := fun w1 h1 => ⟨_, h1, Y_bin rfl rfl hne⟩)
  refine tk 11 ?_
  refine tk 12 ?_
  refine tk 13 ?_
  refine tk 14 ?_
  refine tk (v := .pointer (some (adr OA i))) 15 ?_ (hS := fun w1 h1 => ⟨_, h1, Y_indexAddr_slice1 (len := rows.length) (cap := oc) (i' := i) rfl rfl rfl hin sf⟩)
  refine tk (v := r.val) 16 ?_ (hS := fun w1 h1 => ⟨_, h1, Y_load rfl rfl (fun w2 s2 => ld w2 _ s2)⟩)
  refine tk (v := .int .i64 (r.l.length : Int)) 17 ?_ (hS := fun w1 h1 => ⟨_, h1, Y_len_slice (A := r.A) (cap := r.c) rfl⟩)
  by_cases hkn : k < r.l.length
  · have sr : Safe r.A := by
      obtain ⟨e, he, ⟨x, hx⟩, -⟩ := ha.get hri
      exact hx.safe0 (by rw [List.length_map, List.length_append, markRow_length]; omega)
    refine tk (v := .bool true) 18 ?_ (hS := fun w1 h1 => ⟨_, h1, Y_bin rfl rfl (by rw [b_lss, decide_eq_true (by omega)])⟩)
    refine tk 19 ?_
    refine tk 20 ?_
    refine tk 21 ?_
    refine tk (v := .pointer (some (adr OA i))) 22 ?_ (hS := fun w1 h1 => ⟨_, h1, Y_indexAddr_slice1 (len := rows.length) (cap := oc) (i' := i) rfl rfl rfl hin sf⟩)
    refine tk (v := r.val) 23 ?_ (hS := fun w1 h1 => ⟨_, h1, Y_load rfl rfl (fun w2 s2 => ld w2 _ s2)⟩)
    refine tk 24 ?_
    refine tk (v := .pointer (some (adr r.A k))) 25 ?_ (hS := fun w1 h1 => ⟨_, h1, Y_indexAddr_slice1 (len := r.l.length) (cap := r.c) (i' := k) rfl rfl rfl hkn sr⟩)
    refine tk (v := u8 (markB i k)) 26 ?_ (hS := fun w1 h1 => ⟨_, h1, Y_load rfl rfl (fun w2 s2 => (fl w2 s2 i r hri).cell (markRow_cell _ _ _ hkn))⟩)
    refine tk 27 ?_
    refine tk 28 ?_
    apply VA_step 29; exact rfl; kernel_rfl
    apply VL_call; exact .yes rfl rfl; exact rfl; exact rfl
    · intro w1 s; exact mark w1 i k (by omega) (by omega)
    rintro w1 v w2 s ⟨rfl, t⟩
    refine ⟨_, _, s.comp t, ?_⟩
    refine VL_nil (VA_back (fun w s => s) ?_)
    refine tk (v := .bool false) 30 ?_ (hS := fun w1 h1 => ⟨_, h1, Y_bin rfl rfl hne⟩)
    refine tk 31 ?_
    refine tk 32 ?_
    refine VA_done (by kernel_rfl) ?_
    repeat (first | refine st ?_ | (refine sa ?_; intro _))
    exact VE_fam (k + 1) (by (try dsimp only); omega) (by (try dsimp only); omega) ⟨rfl, rfl, rfl, rfl, trivial⟩ (fun _ s => s)
  · refine tk (v := .bool false) 18 ?_ (hS := fun w1 h1 => ⟨_, h1, Y_bin rfl rfl (by rw [b_lss, decide_eq_false (by omega)])⟩)
    refine tk 19 ?_
    refine tko 20 ?_
    refine tko 21 ?_
    refine tko 22 ?_
    refine tko 23 ?_
    refine tko 24 ?_
    refine tko 25 ?_
    refine tko 26 ?_
    refine tko 27 ?_
    refine tko 28 ?_
    refine tko 29 ?_
    refine tko 30 ?_
    refine tk 31 ?_
    refine tk 32 ?_
    refine VA_done (by kernel_rfl) ?_
    repeat (first | refine st ?_ | (refine sa ?_; intro _))
    exact VE_fam (k + 1) (by (try dsimp only); omega) (by (try dsimp only); omega) ⟨rfl, rfl, rfl, rfl, trivial⟩ (fun _ s => s)
end Go.Proofs.YtpboahlpgfglkaaDoor.X
