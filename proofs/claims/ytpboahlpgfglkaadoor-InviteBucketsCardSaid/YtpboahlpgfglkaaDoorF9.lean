/-
  Contracts: parts laid one behind the other.
-/
import Derived.Test.YtpboahlpgfglkaaDoorF8
namespace Go.Proofs.YtpboahlpgfglkaaDoor.X
open Go Go.RowKit
set_option linter.unusedVariables false
set_option linter.unusedSimpArgs false
set_option maxRecDepth 100000

/-- what is handed to 'write' -/
inductive Part where
  | b (x : UInt8)
  | i (n : Nat)
  | l (r : Row)
  | d (x : List UInt8)
  | rows (A : Option Addr) (c : Nat) (rs : List Row)
def Part.val : Part → Value
  | .b x => .iface 5 (u8 x)
  | .i n => .iface 3 (i64 (n : Int))
  | .l r => .iface 32 r.val
  | .d x => .iface 31 (.agg (x.map u8).toArray)
  | .rows A c rs => .iface 45 (.slice A rs.length c)
def Part.bytes : Part → List UInt8
  | .b x => [x]
  | .i n => le n 4
  | .l r => r.l
  | .d x => x
  | .rows A c rs => cat rs
def Part.good : Part → Prop
  | .rows A c rs => ∀ r ∈ rs, r.l.length = 88
  | _ => True
def Part.ok (w : World) : Part → Prop
  | .b x => True
  | .i n => n < 4294967296
  | .l r => Rd w r.A (r.l.map u8)
  | .d x => x.length = 16
  | .rows A c rs => RdRows w A rs ∧ rs.length ≤ 140737488351232
theorem St.part {w0 w : World} {H : List Ent} (s : St w0 [] H w) {p : Part} (h : p.ok w0) : p.ok w := by
  cases p with
  | b x => exact h
  | i n => exact h
  | l r => exact s.rd h
  | d x => exact h
  | rows A c rs => exact ⟨s.rdRows h.1, h.2⟩
def pcat (ps : List Part) : List UInt8 := (ps.map Part.bytes).flatten
theorem get_part {ps : List Part} {i : Nat} {p : Part} (h : ps[i]? = some p) : (ps.map Part.val)[i]? = some p.val := by simp [h]
theorem all_part (ps : List Part) : (ps.map Part.val).all (·.oneCell') = true := by
  simp only [List.all_map, List.all_eq_true]
  intro p _; cases p <;> rfl
theorem pcat_take {ps : List Part} {k : Nat} {p : Part} (h : ps[k]? = some p) : pcat (ps.take (k + 1)) = pcat (ps.take k) ++ p.bytes := by
  have : ps.take (k + 1) = ps.take k ++ [p] := by rw [List.take_add_one, h]; rfl
  rw [this]; simp [pcat]
theorem pcat_le {ps : List Part} {k : Nat} {p : Part} (h : ps[k]? = some p) : (pcat (ps.take k)).length + p.bytes.length ≤ (pcat ps).length := by
  rw [← List.length_append, ← pcat_take h]
  have h2 : pcat ps = pcat (ps.take (k + 1)) ++ pcat (ps.drop (k + 1)) := by
    unfold pcat
    rw [← List.flatten_append, ← List.map_append, List.take_append_drop]
  rw [h2, List.length_append]; omega
theorem good_take {ps : List Part} {k : Nat} {p : Part} (h : ps[k]? = some p) (hg : ∀ q ∈ ps.take k, q.good) (hp : p.good) : ∀ q ∈ ps.take (k + 1), q.good := by
  have : ps.take (k + 1) = ps.take k ++ [p] := by rw [List.take_add_one, h]; rfl
  intro q hq
  rw [this] at hq
  simp at hq
  rcases hq with hq | rfl
  · exact hg q hq
  · exact hp
theorem len_take {rs : List Row} {k : Nat} {r : Row} (h : rs[k]? = some r) (hg : ∀ q ∈ rs.take k, q.l.length = 88) (hp : r.l.length = 88) : ∀ q ∈ rs.take (k + 1), q.l.length = 88 := by
  have : rs.take (k + 1) = rs.take k ++ [r] := by rw [List.take_add_one, h]; rfl
  intro q hq
  rw [this] at hq
  simp at hq
  rcases hq with hq | rfl
  · exact hg q hq
  · exact hp

/-- how long a part may become -/
def Part.size : Part → Nat
  | .rows A c rs => 88 * rs.length
  | p => p.bytes.length
def psize (ps : List Part) : Nat := (ps.map Part.size).sum
theorem cat88 : ∀ {rs : List Row}, (∀ r ∈ rs, r.l.length = 88) → (cat rs).length = 88 * rs.length
  | [], _ => rfl
  | r :: rs, h => by
    have ih := cat88 (rs := rs) (fun q hq => h q (by simp [hq]))
    have h0 := h r (by simp)
    simp only [cat, List.map_cons, List.flatten_cons, List.length_append, List.length_cons] at ih ⊢
    omega
theorem Part.good_size {p : Part} (h : p.good) : p.bytes.length = p.size := by
  cases p with
  | rows A c rs => exact cat88 h
  | _ => rfl
theorem pcat_good : ∀ {ps : List Part}, (∀ p ∈ ps, p.good) → (pcat ps).length = psize ps
  | [], _ => rfl
  | p :: ps, h => by
    have ih := pcat_good (ps := ps) (fun q hq => h q (by simp [hq]))
    have h0 := Part.good_size (h p (by simp))
    simp only [pcat, psize, List.map_cons, List.flatten_cons, List.length_append, List.sum_cons] at ih ⊢
    omega
theorem psize_le {ps : List Part} {k : Nat} {p : Part} (h : ps[k]? = some p) (hg : ∀ q ∈ ps.take k, q.good) : (pcat (ps.take k)).length + p.size ≤ psize ps := by
  rw [pcat_good hg]
  have h2 : ps = ps.take k ++ p :: ps.drop (k + 1) := by
    have hk : k < ps.length := by
      rcases Nat.lt_or_ge k ps.length with h' | h'
      · exact h'
      · rw [List.getElem?_eq_none h'] at h; simp at h
    have e : ps[k] = p := by rw [List.getElem?_eq_getElem hk] at h; simpa using h
    rw [← e, ← List.drop_eq_getElem_cons hk, List.take_append_drop]
  have h3 : psize ps = psize (ps.take k) + (p.size + psize (ps.drop (k + 1))) := by
    conv => lhs; rw [h2]
    simp [psize]
  omega

/-- what 'write' answers -/
def Wrote (parts : List Part) (w : World) (v : Value) (w' : World) : Prop :=
  ((∀ p ∈ parts, p.good) ∧ ∃ e A' c', v = .tuple #[.slice A' (pcat parts).length c', .nilIface] ∧ OwnSl e A' c' 5 ((pcat parts).map u8) ∧ St w [] [e] w') ∨
  ((¬ ∀ p ∈ parts, p.good) ∧ v = .tuple #[.slice none 0 0, .iface 24 (i64 4)] ∧ St w [] [] w')

set_option maxHeartbeats 4000000 in
theorem write (w : World) (A : Option Addr) (ca : Nat) (parts : List Part) (hA : Rd w A (parts.map Part.val)) (hok : ∀ p ∈ parts, p.ok w) (hn : parts.length ≤ 140737488351232) (hl : psize parts ≤ 140737488351232) :
    Calls Tryd.prog 89 #[.slice A parts.length ca] w (Ret (Wrote parts w)) := by
  refine enter (args := [_]) Tryd.func89 rfl rfl rfl ?_
  repeat (first | refine st ?_ | (refine sa ?_; intro _))
  refine VC_loop ⟨fun i : Nat × Ent × Option Addr × Nat => i.1 ≤ parts.length ∧ (∀ p ∈ parts.take i.1, p.good) ∧ OwnSl i.2.1 i.2.2.1 i.2.2.2 5 ((pcat (parts.take i.1)).map u8), fun i => [(4, .slice i.2.2.1 (pcat (parts.take i.1)).length i.2.2.2), (14, .slice A parts.length ca), (15, i64 (parts.length : Int)), (16, i64 (i.1 : Int))], fun _ => [], fun i => [i.2.1]⟩ (fun i => parts.length - i.1) (0, none, none, 0) ⟨by simp, by simp, OwnSl.nil _⟩ ⟨rfl, rfl, rfl, rfl, trivial⟩ (fun _ s => s.none) ?_
  rintro ⟨k, e, A', c'⟩ ⟨hk, hg, ho⟩
  dsimp only at hk hg ho ⊢
  by_cases hkn : k < parts.length
  · obtain ⟨p, hp⟩ : ∃ p, parts[k]? = some p := ⟨parts[k]'hkn, List.getElem?_eq_getElem _⟩
    have hpo := hok p (List.mem_of_getElem? hp)
    have hple := psize_le hp hg
    have hpc := pcat_take hp
    obtain ⟨acc, hacc⟩ : ∃ acc, acc = pcat (parts.take k) := ⟨_, rfl⟩
    rw [← hacc] at ho hple hpc ⊢
    have hlen : (acc.map u8).length = acc.length := by simp
    repeat (first | refine st ?_ | (refine sa ?_; intro _))
    apply VL_load; exact .none; exact rfl; exact rfl; exact fun w s => s.ocell (hA.cell (get_part hp)); exact rfl
    cases p with
    | b x =>
      repeat (first | refine st ?_ | (refine sa ?_; intro _))
      apply VL_buildSlice1; exact .none; exact rfl; exact rfl; exact rfl; exact rfl; exact rfl; exact rfl; exact rfl
      intro b
      simp only [Part.size, Part.bytes, List.length_cons, List.length_nil] at hple
      refine VL_append (vs := acc.map u8) (news := [u8 x]) (p := 0) (r := acc.length + 1) .none rfl rfl rfl rfl ho hlen.symm (all_u8 _) rfl (fun w s => s.rdH (k := 1) rfl) rfl rfl (by rw [hlen]; rfl) (by omega) rfl (fun e2 A2 c2 h2 => ?_)
      repeat (first | refine st ?_ | (refine sa ?_; intro _))
      refine VE_fam (k + 1, e2, A2, c2) ⟨by (try dsimp only); omega, good_take hp hg trivial, ?_⟩ (by (try dsimp only); omega) ⟨?_, rfl, rfl, rfl, trivial⟩ (fun _ s => s.perm (by simp))
      · dsimp only; rw [hpc, List.map_append]; exact h2
      · dsimp only; rw [hpc]; simp [Part.bytes]; rfl
    | i m =>
      simp only [Part.size, Part.bytes, le_length] at hple
      have hm32 : (UInt32.ofNat m).toNat = m := by rw [UInt32.toNat_ofNat', Nat.mod_eq_of_lt hpo]
      repeat (first | refine st ?_ | (refine sa ?_; intro _))
      apply VL_call; exact .none; exact rfl; exact rfl
      · intro w3 s3; exact putLittle32 w3 A' c' acc (UInt32.ofNat m) (s3.rdO (k := 0) rfl ho) (by omega)
      rintro w3 v w4 s3 ⟨e2, A2, c2, rfl, h2, t3⟩
      refine ⟨_, _, s3.comp0 t3, ?_⟩
      rw [hm32] at h2
      repeat (first | refine st ?_ | (refine sa ?_; intro _))
      refine VE_fam (k + 1, e2, A2, c2) ⟨by (try dsimp only); omega, good_take hp hg trivial, ?_⟩ (by (try dsimp only); omega) ⟨?_, rfl, rfl, rfl, trivial⟩ (fun _ s => s.perm (by simp))
      · dsimp only; rw [hpc]; exact h2
      · dsimp only; rw [hpc]; simp [Part.bytes, le_length]; rfl
    | l r =>
      have hrl : Rd w r.A (r.l.map u8) := hpo
      simp only [Part.size, Part.bytes] at hple
      repeat (first | refine st ?_ | (refine sa ?_; intro _))
      refine VL_append (vs := acc.map u8) (news := r.l.map u8) (p := 0) (r := acc.length + r.l.length) .none rfl rfl rfl rfl ho hlen.symm (all_u8 _) (by simp) (fun w s => s.rd hrl) (all_u8 _) rfl (by simp) (by omega) rfl (fun e2 A2 c2 h2 => ?_)
      repeat (first | refine st ?_ | (refine sa ?_; intro _))
      refine VE_fam (k + 1, e2, A2, c2) ⟨by (try dsimp only); omega, good_take hp hg trivial, ?_⟩ (by (try dsimp only); omega) ⟨?_, rfl, rfl, rfl, trivial⟩ (fun _ s => s)
      · dsimp only; rw [hpc, List.map_append]; exact h2
      · dsimp only; rw [hpc]; simp [Part.bytes]; rfl
    | d x =>
      have hx16 : x.length = 16 := hpo
      simp only [Part.size, Part.bytes] at hple
      repeat (first | refine st ?_ | (refine sa ?_; intro _))
      rename_i q
      apply VL_storeW (k := 1) (vs := x.map u8); exact .none; exact rfl; exact rfl; exact rfl; (simp [hx16]); exact all_u8 _; exact rfl; exact rfl; exact NF.zero _
      repeat (first | refine st ?_ | (refine sa ?_; intro _))
      apply VL_slice_arr (i' := 0) (j' := 16); exact .none; exact rfl; exact .inl ⟨rfl, rfl⟩; exact .inl ⟨rfl, rfl⟩; omega; omega; exact rfl
      intro off' hoff
      have hoff' : off' = 0 := by omega
      subst hoff'
      refine VL_append (vs := acc.map u8) (news := x.map u8) (p := 0) (r := acc.length + x.length) .none rfl rfl rfl rfl ho hlen.symm (all_u8 _) (by simp [hx16]) (fun w s => s.rdH (k := 1) rfl) (all_u8 _) rfl (by simp) (by omega) rfl (fun e2 A2 c2 h2 => ?_)
      repeat (first | refine st ?_ | (refine sa ?_; intro _))
      refine VE_fam (k + 1, e2, A2, c2) ⟨by (try dsimp only); omega, good_take hp hg trivial, ?_⟩ (by (try dsimp only); omega) ⟨?_, rfl, rfl, rfl, trivial⟩ (fun _ s => s.perm (by simp))
      · dsimp only; rw [hpc, List.map_append]; exact h2
      · dsimp only; rw [hpc]; simp [Part.bytes]; rfl
    | rows B cb rs =>
      obtain ⟨hB, hrn⟩ : RdRows w B rs ∧ rs.length ≤ 140737488351232 := hpo
      have hB1 := hB.rd
      simp only [Part.size] at hple
      simp only [Part.bytes] at hpc
      repeat (first | refine st ?_ | (refine sa ?_; intro _))
      refine VC_loop ⟨fun i : Nat × Ent × Option Addr × Nat => i.1 ≤ rs.length ∧ (∀ r ∈ rs.take i.1, r.l.length = 88) ∧ OwnSl i.2.1 i.2.2.1 i.2.2.2 5 ((acc ++ cat (rs.take i.1)).map u8), fun i => [(4, .slice i.2.2.1 (acc.length + (cat (rs.take i.1)).length) i.2.2.2), (14, .slice A parts.length ca), (15, i64 (parts.length : Int)), (16, i64 (k : Int)), (50, .slice B rs.length cb), (51, i64 (rs.length : Int)), (52, i64 (i.1 : Int))], fun _ => [], fun i => [i.2.1]⟩ (fun i => rs.length - i.1) (0, e, A', c') ⟨by simp, by simp, by simpa [cat] using ho⟩ ⟨rfl, rfl, rfl, rfl, rfl, rfl, rfl, trivial⟩ (fun _ s => s) ?_
      rintro ⟨j, e1, A1, c1⟩ ⟨hj, hg1, ho1⟩
      dsimp only at hj hg1 ho1 ⊢
      by_cases hjn : j < rs.length
      · obtain ⟨r, hr⟩ : ∃ r, rs[j]? = some r := ⟨rs[j]'hjn, List.getElem?_eq_getElem _⟩
        have hrl := hB.each r (List.mem_of_getElem? hr)
        have hle := cat88 hg1
        have hjl : (rs.take j).length = j := by simp; omega
        repeat (first | refine st ?_ | (refine sa ?_; intro _))
        refine VC_cond_d rfl (fun h => ?_) (fun h => ?_)
        · repeat (first | refine st ?_ | (refine sa ?_; intro _))
          refine VE_ret2 rfl rfl rfl (fun w s => ⟨_, rfl, .inr ⟨fun hall => ?_, rfl, s.drop⟩⟩)
          have := hall _ (List.mem_of_getElem? hp)
          have h88 : r.l.length = 88 := this r (List.mem_of_getElem? hr)
          exact h (by rw [h88]; rfl)
        · have h88 : r.l.length = 88 := by
            have : ((r.l.length : Nat) : Int) = 88 := by simpa using h
            omega
          repeat (first | refine st ?_ | (refine sa ?_; intro _))
          have hlen1 : ((acc ++ cat (rs.take j)).map u8).length = acc.length + (cat (rs.take j)).length := by simp
          refine VL_append (vs := (acc ++ cat (rs.take j)).map u8) (news := r.l.map u8) (p := 0) (r := acc.length + (cat (rs.take j)).length + r.l.length) .none rfl rfl rfl rfl ho1 hlen1.symm (all_u8 _) (by simp) (fun w s => s.rd hrl) (all_u8 _) rfl (by rw [hlen1]; simp) (by omega) rfl (fun e2 A2 c2 h2 => ?_)
          repeat (first | refine st ?_ | (refine sa ?_; intro _))
          refine VE_fam (j + 1, e2, A2, c2) ⟨by (try dsimp only); omega, len_take hr hg1 h88, ?_⟩ (by (try dsimp only); omega) ⟨?_, rfl, rfl, rfl, rfl, rfl, rfl, trivial⟩ (fun _ s => s)
          · dsimp only; rw [cat_take hr, ← List.append_assoc, List.map_append]; exact h2
          · dsimp only; rw [cat_take hr, List.length_append, ← Nat.add_assoc]; rfl
      · have hj' : j = rs.length := by omega
        subst hj'
        rw [List.take_length] at ho1 hg1 ⊢
        repeat (first | refine st ?_ | (refine sa ?_; intro _))
        refine VE_fam (k + 1, e1, A1, c1) ⟨by (try dsimp only); omega, good_take hp hg hg1, ?_⟩ (by (try dsimp only); omega) ⟨?_, rfl, rfl, rfl, trivial⟩ (fun _ s => s)
        · dsimp only; rw [hpc]; exact ho1
        · dsimp only; rw [hpc, List.length_append]; rfl
  · have hk' : k = parts.length := by omega
    subst hk'
    rw [List.take_length] at ho hg ⊢
    repeat (first | refine st ?_ | (refine sa ?_; intro _))
    exact VE_ret2 rfl rfl rfl (fun w s => ⟨_, rfl, .inl ⟨hg, e, A', c', rfl, ho, s⟩⟩)
end Go.Proofs.YtpboahlpgfglkaaDoor.X
