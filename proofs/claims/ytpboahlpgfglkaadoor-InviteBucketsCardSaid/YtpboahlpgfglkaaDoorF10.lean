/-
  Contracts: laid; configs laid, by the program and by the document; copies; two lists joined.
-/
import Derived.Test.YtpboahlpgfglkaaDoorF9
import Derived.Test.YtpboahlpgfglkaaDoorF4
namespace Go.Proofs.YtpboahlpgfglkaaDoor.X
open Go Go.RowKit
set_option linter.unusedVariables false
set_option linter.unusedSimpArgs false
set_option maxRecDepth 100000

theorem get_last (H : List Ent) (x : Ent) : (H ++ [x])[H.length]? = some x := by simp
theorem asNil (w : World) (x : Value) : Calls Tryd.prog 90 #[.nilIface, x] w (Ret fun v w' => v = .bool false ∧ St w [] [] w') := by
  refine enter (args := [_, _]) Tryd.func90 rfl rfl rfl ?_
  repeat (first | refine st ?_ | (refine sa ?_; intro _))
  apply VL_ifNil_t; exact .none; exact rfl; exact rfl
  repeat (first | refine st ?_ | (refine sa ?_; intro _))
  exact VE_ret1 rfl rfl (fun w s => ⟨_, rfl, rfl, s⟩)

/-- what 'laid' answers where all parts may be laid -/
theorem laid_good (w : World) (A : Option Addr) (ca : Nat) (parts : List Part) (hA : Rd w A (parts.map Part.val)) (hok : ∀ p ∈ parts, p.ok w) (hg : ∀ p ∈ parts, p.good) (hn : parts.length ≤ 140737488351232) (hl : (pcat parts).length ≤ 140737488351232) :
    Calls Tryd.prog 64 #[.slice A parts.length ca] w (Ret fun v w' => ∃ e A' c', v = .tuple #[.slice A' (pcat parts).length c', i64 0] ∧ OwnSl e A' c' 5 ((pcat parts).map u8) ∧ St w [] [e] w') := by
  refine enter (args := [_]) Tryd.func64 rfl rfl rfl ?_
  repeat (first | refine st ?_ | (refine sa ?_; intro _))
  apply VL_call; exact .none; exact rfl; exact rfl
  · intro w1 s; exact write w1 A ca parts (s.rd hA) (fun p hp => s.part (hok p hp)) hn (by rw [← pcat_good hg]; exact hl)
  rintro w1 v w2 s (⟨-, e, A', c', rfl, ho, t⟩ | ⟨hb, -⟩)
  rotate_left
  · exact absurd hg hb
  refine ⟨_, _, s.comp0 t, ?_⟩
  repeat (first | refine st ?_ | (refine sa ?_; intro _))
  rename_i q
  apply VL_call; exact .none; exact rfl; exact rfl
  · intro w3 s3; exact asNil w3 _
  rintro w3 v w4 s3 ⟨rfl, t3⟩
  refine ⟨_, _, s3.comp t3, ?_⟩
  repeat (first | refine st ?_ | (refine sa ?_; intro _))
  exact VE_ret2 rfl rfl rfl (fun w s => ⟨_, rfl, e, A', c', rfl, ho, s.perm (by simp)⟩)

theorem twin (w : World) (A : Option Addr) (ca : Nat) (l : List UInt8) (hA : Rd w A (l.map u8)) (hl : l.length ≤ 140737488351232) :
    Calls Tryd.prog 65 #[.slice A l.length ca] w (Ret fun v w' => ∃ e A' c', v = .slice A' l.length c' ∧ OwnSl e A' c' 5 (l.map u8) ∧ St w [] [e] w') := by
  refine enter (args := [_]) Tryd.func65 rfl rfl rfl ?_
  repeat (first | refine st ?_ | (refine sa ?_; intro _))
  refine VL_append_nil (news := l.map u8) .none rfl rfl rfl (by simp) (fun w s => s.rd hA) (all_u8 _) rfl (by omega) rfl (fun e A' c' ho => ?_)
  repeat (first | refine st ?_ | (refine sa ?_; intro _))
  exact VE_ret1 rfl rfl (fun w s => ⟨_, rfl, e, A', c', rfl, ho, s⟩)

theorem two (w : World) (A B : Option Addr) (ca cb : Nat) (la lb : List UInt8) (hA : Rd w A (la.map u8)) (hB : Rd w B (lb.map u8)) (hl : la.length + lb.length ≤ 140737488351232) :
    Calls Tryd.prog 56 #[.slice A la.length ca, .slice B lb.length cb] w (Ret fun v w' => ∃ e A' c', v = .slice A' (la ++ lb).length c' ∧ OwnSl e A' c' 5 ((la ++ lb).map u8) ∧ St w [] [e] w') := by
  refine enter (args := [_, _]) Tryd.func56 rfl rfl rfl ?_
  repeat (first | refine st ?_ | (refine sa ?_; intro _))
  apply VL_buildSlice1; exact .none; exact rfl; exact rfl; exact rfl; exact rfl; exact rfl; exact rfl; exact rfl
  intro b
  have hc : cat [⟨A, ca, la⟩, ⟨B, cb, lb⟩] = la ++ lb := by simp [cat]
  apply VL_call; exact .none; exact rfl; exact rfl
  · intro w1 s
    exact join w1 (some ⟨b, 0, none⟩) 2 [⟨A, ca, la⟩, ⟨B, cb, lb⟩] ⟨s.rdH (k := 0) rfl, fun r hr => by
      simp at hr
      rcases hr with rfl | rfl
      · exact s.rd hA
      · exact s.rd hB⟩ (by simp) (by rw [hc, List.length_append]; exact hl)
  rintro w1 v w2 s ⟨e, A', c', rfl, ho, t⟩
  refine ⟨_, _, s.comp0 t, ?_⟩
  rw [hc] at ho ⊢
  repeat (first | refine st ?_ | (refine sa ?_; intro _))
  exact VE_ret1 rfl rfl (fun w s => ⟨_, rfl, e, A', c', rfl, ho, s.perm (by simp)⟩)

/-- a config's bytes -/
def Cfg.bytes (c : Cfg) : List UInt8 := le c.batch.toNat 4 ++ le c.message.toNat 4 ++ le c.buckets.toNat 4 ++ le c.text.toNat 4 ++ le c.window.toNat 4 ++ le c.workers.toNat 4
theorem Cfg.bytes_length (c : Cfg) : c.bytes.length = 24 := by simp [Cfg.bytes, le_length]

/-- rows that are the call's own -/
structure OwnRows (es : List Ent) (rows : List Row) : Prop where
  len : es.length = rows.length
  each : ∀ (j : Nat) (e : Ent) (r : Row), es[j]? = some e → rows[j]? = some r → OwnSl e r.A r.c 5 (r.l.map u8)
theorem OwnRows.nil : OwnRows [] [] := ⟨rfl, fun j e r h => by simp at h⟩
theorem OwnRows.snoc {es : List Ent} {rows : List Row} {e : Ent} {r : Row} (h : OwnRows es rows) (ho : OwnSl e r.A r.c 5 (r.l.map u8)) : OwnRows (es ++ [e]) (rows ++ [r]) := by
  refine ⟨by simp [h.len], fun j e' r' he hr => ?_⟩
  rcases Nat.lt_trichotomy j es.length with hj | hj | hj
  · rw [List.getElem?_append_left hj] at he
    rw [List.getElem?_append_left (by rw [← h.len]; exact hj)] at hr
    exact h.each j e' r' he hr
  · subst hj
    rw [List.getElem?_append_right (Nat.le_refl _)] at he
    rw [List.getElem?_append_right (by rw [h.len]; exact Nat.le_refl _), h.len] at hr
    simp at he hr
    subst he hr; exact ho
  · rw [List.getElem?_eq_none (by simp; omega)] at he; simp at he
theorem OwnRows.rd {w0 w : World} {M : Mem} {H : List Ent} {es : List Ent} {rows : List Row} (h : OwnRows es rows) (s : St w0 M (H ++ es) w) : ∀ r ∈ rows, Rd w r.A (r.l.map u8) := by
  intro r hr
  obtain ⟨j, hj⟩ := List.mem_iff_getElem?.1 hr
  have hjl : j < es.length := by
    rw [h.len]
    rcases Nat.lt_or_ge j rows.length with h' | h'
    · exact h'
    · rw [List.getElem?_eq_none h'] at hj; simp at hj
  exact s.rdO (k := H.length + j) (e := es[j]) (by rw [List.getElem?_append_right (by omega), show H.length + j - H.length = j by omega, List.getElem?_eq_getElem hjl]) (h.each j _ r (List.getElem?_eq_getElem hjl) hj)

/-- an answer of bytes and an error's number -/
def Ans (ans : List UInt8) (err : Int) (w : World) (v : Value) (w' : World) : Prop :=
  ∃ e A' c', v = .tuple #[.slice A' ans.length c', i64 err] ∧ OwnSl e A' c' 5 (ans.map u8) ∧ St w [] [e] w'
theorem Ans.none {err : Int} {w w' : World} {H : List Ent} (s : St w [] H w') : Ans [] err w (.tuple #[.slice none 0 0, i64 err]) w' := ⟨_, _, _, rfl, OwnSl.nil _, s.drop.none⟩
def putCfg (c : Cfg) : List UInt8 × Int := if c.good then (c.bytes, 0) else ([], 200)

theorem putConfig (w : World) (c : Cfg) (hm : -9223372036854775808 ≤ c.message ∧ c.message ≤ 9223372036854775807) :
    Calls Tryd.prog 42 #[c.val] w (Ret (Ans (putCfg c).1 (putCfg c).2 w)) := by
  by_cases hg : c.good
  · have hpc : putCfg c = (c.bytes, 0) := if_pos hg
    rw [hpc]
    obtain ⟨a, b, k, d, e, f⟩ := c
    have hg' := hg
    simp only [Cfg.good] at hg'
    obtain ⟨⟨h1, h1'⟩, ⟨h2, h2'⟩, ⟨h3, h3'⟩, ⟨h4, h4', h4''⟩, ⟨h5, h5'⟩, ⟨h6, h6'⟩⟩ := hg'
    obtain ⟨a, rfl⟩ := Int.eq_ofNat_of_zero_le (show 0 ≤ a by omega)
    obtain ⟨b, rfl⟩ := Int.eq_ofNat_of_zero_le (show 0 ≤ b by omega)
    obtain ⟨k, rfl⟩ := Int.eq_ofNat_of_zero_le (show 0 ≤ k by omega)
    obtain ⟨d, rfl⟩ := Int.eq_ofNat_of_zero_le (show 0 ≤ d by omega)
    obtain ⟨e, rfl⟩ := Int.eq_ofNat_of_zero_le (show 0 ≤ e by omega)
    obtain ⟨f, rfl⟩ := Int.eq_ofNat_of_zero_le (show 0 ≤ f by omega)
    refine enter (args := [_]) Tryd.func42 rfl rfl rfl ?_
    repeat (first | refine st ?_ | (refine sa ?_; intro _))
    apply VL_loadW (k := 0); exact .none; exact rfl; exact rfl; exact rfl; exact rfl; exact rfl
    apply VL_call; exact .none; exact rfl; exact rfl
    · intro w3 s3; exact check_good w3 ⟨a, b, k, d, e, f⟩ hg
    rintro w3 v w4 s3 ⟨rfl, t3⟩
    refine ⟨_, _, s3.comp t3, ?_⟩
    repeat (first | refine st ?_ | (refine sa ?_; intro _))
    apply VL_buildSlice1; exact .none; exact rfl; exact rfl; exact rfl; exact rfl; exact rfl; exact rfl; exact rfl
    intro bs
    have hp : pcat [.i a, .i b, .i k, .i d, .i e, .i f] = Cfg.bytes ⟨a, b, k, d, e, f⟩ := by simp [pcat, Part.bytes, Cfg.bytes]
    apply VL_call; exact .none; exact rfl; exact rfl
    · intro w5 s5
      exact laid_good w5 (some ⟨bs, 0, none⟩) 6 [.i a, .i b, .i k, .i d, .i e, .i f] (s5.rdH (k := 1) rfl)
        (fun p hp => by simp at hp; rcases hp with rfl | rfl | rfl | rfl | rfl | rfl <;> simp only [Part.ok] <;> omega) (fun p hp => by simp at hp; rcases hp with rfl | rfl | rfl | rfl | rfl | rfl <;> trivial) (by simp) (by rw [hp, Cfg.bytes_length]; omega)
    rintro w5 v w6 s5 ⟨e2, A2, c2, rfl, ho, t5⟩
    refine ⟨_, _, s5.comp0 t5, ?_⟩
    rw [hp] at ho ⊢
    repeat (first | refine st ?_ | (refine sa ?_; intro _))
    exact VE_ret2 rfl rfl rfl (fun w s => ⟨_, rfl, e2, A2, c2, rfl, ho, s.perm (by simp)⟩)
  · have hpc : putCfg c = ([], 200) := if_neg hg
    rw [hpc]
    obtain ⟨a, b, k, d, e, f⟩ := c
    refine enter (args := [_]) Tryd.func42 rfl rfl rfl ?_
    repeat (first | refine st ?_ | (refine sa ?_; intro _))
    apply VL_loadW (k := 0); exact .none; exact rfl; exact rfl; exact rfl; exact rfl; exact rfl
    apply VL_call; exact .none; exact rfl; exact rfl
    · intro w3 s3; exact check_bad w3 ⟨a, b, k, d, e, f⟩ hg hm
    rintro w3 v w4 s3 ⟨rfl, t3⟩
    refine ⟨_, _, s3.comp t3, ?_⟩
    repeat (first | refine st ?_ | (refine sa ?_; intro _))
    exact VE_ret2 rfl rfl rfl (fun w s => ⟨_, rfl, Ans.none s⟩)

theorem refPutConfig (w : World) (c : Cfg) (hm : -9223372036854775808 ≤ c.message ∧ c.message ≤ 9223372036854775807) :
    Calls Tryd.prog 43 #[c.val] w (Ret (Ans (putCfg c).1 (putCfg c).2 w)) := by
  by_cases hg : c.good
  · have hpc : putCfg c = (c.bytes, 0) := if_pos hg
    rw [hpc]
    obtain ⟨a, b, k, d, e, f⟩ := c
    have hg' := hg
    simp only [Cfg.good] at hg'
    obtain ⟨⟨h1, h1'⟩, ⟨h2, h2'⟩, ⟨h3, h3'⟩, ⟨h4, h4', h4''⟩, ⟨h5, h5'⟩, ⟨h6, h6'⟩⟩ := hg'
    obtain ⟨a, rfl⟩ := Int.eq_ofNat_of_zero_le (show 0 ≤ a by omega)
    obtain ⟨b, rfl⟩ := Int.eq_ofNat_of_zero_le (show 0 ≤ b by omega)
    obtain ⟨k, rfl⟩ := Int.eq_ofNat_of_zero_le (show 0 ≤ k by omega)
    obtain ⟨d, rfl⟩ := Int.eq_ofNat_of_zero_le (show 0 ≤ d by omega)
    obtain ⟨e, rfl⟩ := Int.eq_ofNat_of_zero_le (show 0 ≤ e by omega)
    obtain ⟨f, rfl⟩ := Int.eq_ofNat_of_zero_le (show 0 ≤ f by omega)
    refine enter (args := [_]) Tryd.func43 rfl rfl rfl ?_
    repeat (first | refine st ?_ | (refine sa ?_; intro _))
    apply VL_loadW (k := 0); exact .none; exact rfl; exact rfl; exact rfl; exact rfl; exact rfl
    apply VL_call; exact .none; exact rfl; exact rfl
    · intro w3 s3; exact refCheck w3 ⟨a, b, k, d, e, f⟩
    rintro w3 v w4 s3 ⟨rfl, t3⟩
    refine ⟨_, _, s3.comp t3, ?_⟩
    rw [if_pos hg]
    repeat (first | refine st ?_ | (refine sa ?_; intro _))
    apply VL_buildSlice1; exact .none; exact rfl; exact rfl; exact rfl; exact rfl; exact rfl; exact rfl; exact rfl
    intro bs
    repeat (first | refine st ?_ | (refine sa ?_; intro _))
    rename_i cb
    obtain ⟨fs, hfs⟩ : ∃ fs : List Nat, fs = [a, b, k, d, e, f] := ⟨_, rfl⟩
    have hfb : ∀ m ∈ fs, m < 4294967296 := by
      intro m hm'
      rw [hfs] at hm'
      simp at hm'
      omega
    have hf6 : fs.length = 6 := by rw [hfs]; rfl
    refine VC_loop ⟨fun i : Nat × Ent × Option Addr × Nat × List Ent × List Row => i.1 ≤ 6 ∧ OwnSl i.2.1 i.2.2.1 i.2.2.2.1 32 (i.2.2.2.2.2.map Row.val) ∧ OwnRows i.2.2.2.2.1 i.2.2.2.2.2 ∧ i.2.2.2.2.2.map Row.l = (fs.take i.1).map (le · 4),
      fun i => [(4, .slice (some ⟨bs, 0, none⟩) 6 6), (5, .slice i.2.2.1 i.1 i.2.2.2.1), (6, i64 (i.1 : Int))], fun _ => [], fun i => Blk cb [i64 a, i64 b, i64 k, i64 d, i64 e, i64 f] 29 :: Blk bs (fs.map fun m : Nat => i64 (m : Int)) 3 :: i.2.1 :: i.2.2.2.2.1⟩
      (fun i => 6 - i.1) (0, none, none, 0, [], []) ⟨by simp, OwnSl.nil _, OwnRows.nil, by simp⟩ ⟨rfl, rfl, rfl, trivial⟩ (fun _ s => by rw [hfs]; exact s.none) ?_
    rintro ⟨n, e1, A1, c1, es, rows⟩ ⟨hn, ho, hes, hrl⟩
    dsimp only at hn ho hes hrl ⊢
    have hrn : rows.length = n := by have := congrArg List.length hrl; simp at this; omega
    by_cases hn6 : n < 6
    · obtain ⟨m, hm2⟩ : ∃ m, fs[n]? = some m := ⟨fs[n]'(by omega), List.getElem?_eq_getElem _⟩
      have hm3 := hfb m (List.mem_of_getElem? hm2)
      have hget : (fs.map fun m : Nat => i64 (m : Int))[n]? = some (i64 (m : Int)) := by simp [hm2]
      have hm4 : (UInt64.ofNat m).toNat = m := by rw [UInt64.toNat_ofNat', Nat.mod_eq_of_lt (by omega)]
      repeat (first | refine st ?_ | (refine sa ?_; intro _))
      apply VL_load; exact .none; exact rfl; exact rfl; exact fun w s => s.cellB (k := 1) rfl hget; exact rfl
      repeat (first | refine st ?_ | (refine sa ?_; intro _))
      apply VL_call; exact .none; exact rfl; exact rfl
      · intro w5 s5; exact little w5 (UInt64.ofNat m) 4 (by omega)
      rintro w5 v w6 s5 ⟨e2, A2, c2, rfl, h2, t5⟩
      refine ⟨_, _, s5.comp0 t5, ?_⟩
      rw [hm4] at h2
      repeat (first | refine st ?_ | (refine sa ?_; intro _))
      apply VL_buildSlice1; exact .none; exact rfl; exact rfl; exact rfl; exact rfl; exact rfl; exact rfl; exact rfl
      intro bt
      refine VL_append (vs := rows.map Row.val) (news := [Row.val ⟨A2, c2, le m 4⟩]) (p := 2) (r := n + 1) .none rfl rfl rfl rfl ho (by simp [hrn]) (all_row _) rfl (fun w s => s.rdH (get_last _ _)) rfl rfl (by simp [hrn]) (by omega) rfl (fun e3 A3 c3 h3 => ?_)
      repeat (first | refine st ?_ | (refine sa ?_; intro _))
      refine VE_fam (n + 1, e3, A3, c3, es ++ [e2], rows ++ [⟨A2, c2, le m 4⟩]) ⟨by (try dsimp only); omega, ?_, ?_, ?_⟩ (by (try dsimp only); omega) ⟨rfl, rfl, rfl, trivial⟩ (fun _ s => s.perm ?_)
      · dsimp only; rw [List.map_append]; exact h3
      · exact hes.snoc h2
      · dsimp only; rw [List.take_add_one, hm2, List.map_append, hrl]; simp
      · dsimp only; simp
    · have hn' : n = 6 := by omega
      subst hn'
      have hcat : cat rows = Cfg.bytes ⟨a, b, k, d, e, f⟩ := by
        unfold cat
        rw [hrl, List.take_of_length_le (by omega), hfs]
        simp [Cfg.bytes]
      repeat (first | refine st ?_ | (refine sa ?_; intro _))
      apply VL_call; exact .none; exact rfl; exact rfl
      · intro w7 s7
        have q := join w7 A1 c1 rows ⟨s7.rdO (k := 2) rfl ho, hes.rd (H := [_, _, _]) s7⟩ (by omega) (by rw [hcat, Cfg.bytes_length]; omega)
        rw [hrn] at q; exact q
      rintro w7 v w8 s7 ⟨e2, A2, c2, rfl, h2, t7⟩
      refine ⟨_, _, s7.comp0 t7, ?_⟩
      rw [hcat] at h2 ⊢
      repeat (first | refine st ?_ | (refine sa ?_; intro _))
      exact VE_ret2 rfl rfl rfl (fun w s => ⟨_, rfl, e2, A2, c2, rfl, h2, s.perm (by simp)⟩)
  · have hpc : putCfg c = ([], 200) := if_neg hg
    rw [hpc]
    obtain ⟨a, b, k, d, e, f⟩ := c
    refine enter (args := [_]) Tryd.func43 rfl rfl rfl ?_
    repeat (first | refine st ?_ | (refine sa ?_; intro _))
    apply VL_loadW (k := 0); exact .none; exact rfl; exact rfl; exact rfl; exact rfl; exact rfl
    apply VL_call; exact .none; exact rfl; exact rfl
    · intro w3 s3; exact refCheck w3 ⟨a, b, k, d, e, f⟩
    rintro w3 v w4 s3 ⟨rfl, t3⟩
    refine ⟨_, _, s3.comp t3, ?_⟩
    rw [if_neg hg]
    repeat (first | refine st ?_ | (refine sa ?_; intro _))
    exact VE_ret2 rfl rfl rfl (fun w s => ⟨_, rfl, Ans.none s⟩)
end Go.Proofs.YtpboahlpgfglkaaDoor.X
