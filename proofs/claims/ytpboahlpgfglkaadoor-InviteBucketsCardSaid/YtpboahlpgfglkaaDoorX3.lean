/-
  Own library, part 3: rules for memory.
-/
import Derived.Test.YtpboahlpgfglkaaDoorX2
import Derived.Laws.Append
import Derived.Deep.AppendSrc
import Derived.Laws.MakeOwn
namespace Go.Proofs.YtpboahlpgfglkaaDoor.X
open Go Go.RowKit
set_option linter.unusedVariables false
set_option linter.unusedSimpArgs false

abbrev Blk (b : Nat) (l : List Value) (T : Nat) (fr : Nat × Nat := (0, 0)) : Ent := some (b, .cells l.toArray T fr)
/-- no cell of the first n is frozen -/
def NF (fr : Nat × Nat) (n : Nat) : Prop := ∀ j, j < n → ¬ (fr.1 ≤ j ∧ j < fr.2)
theorem NF.zero (n : Nat) : NF (0, 0) n := fun j _ h => by simp at h
theorem NF.mono {fr m n} (h : NF fr n) (hm : m ≤ n) : NF fr m := fun j hj => h j (by omega)
theorem NF.high {a b n} (h : n ≤ a) : NF (a, b) n := fun j hj h' => by simp at h'; omega

/-- cells read -/
def At (w : World) (b off : Nat) (vs : List Value) : Prop := ∀ j v, vs[j]? = some v → w.cell? ⟨b, off + j, none⟩ = some v
/-- a slice's cells read -/
def Rd (w : World) (A : Option Addr) (vs : List Value) : Prop := vs = [] ∨ ∃ b off, A = some ⟨b, off, none⟩ ∧ At w b off vs
def adr (A : Option Addr) (k : Nat) : Addr := match A with | some a => ⟨a.block, a.off + k, none⟩ | none => ⟨0, 0, none⟩
def Safe (A : Option Addr) : Prop := ∃ b off, A = some ⟨b, off, none⟩

theorem Rd.safe {w A vs} (h : Rd w A vs) {i : Nat} (hi : i < vs.length) : Safe A := by
  rcases h with rfl | ⟨b, off, rfl, -⟩
  · simp at hi
  · exact ⟨b, off, rfl⟩
theorem Rd.safe0 {w A vs} (h : Rd w A vs) (hi : 0 < vs.length) : Safe A := h.safe hi
theorem Rd.cell {w A vs} (h : Rd w A vs) {i : Nat} {v : Value} (hi : vs[i]? = some v) : w.cell? (adr A i) = some v := by
  rcases h with rfl | ⟨b, off, rfl, h⟩
  · simp at hi
  · exact h i v hi
theorem add_norm (b off k : Nat) : (⟨b, off, none⟩ : Addr).add k = ⟨b, off + k, none⟩ := by unfold Addr.add; split <;> simp_all
theorem Rd.nil (w : World) {A : Option Addr} : Rd w A [] := .inl rfl

/-- a slice that is the call's own, from its block's begin on -/
def OwnSl (e : Ent) (A : Option Addr) (c T : Nat) (vs : List Value) : Prop :=
  (e = none ∧ A = none ∧ c = 0 ∧ vs = []) ∨ ∃ b junk fr, e = Blk b (vs ++ junk) T fr ∧ A = some ⟨b, 0, none⟩ ∧ c = vs.length + junk.length ∧ NF fr c
theorem OwnSl.nil (T : Nat) : OwnSl none none 0 T [] := .inl ⟨rfl, rfl, rfl, rfl⟩
theorem OwnSl.le {e A c T vs} (h : OwnSl e A c T vs) : vs.length ≤ c := by
  rcases h with ⟨-, -, rfl, rfl⟩ | ⟨b, junk, fr, -, -, rfl, -⟩
  · simp
  · omega
theorem OwnSl.safe0 {e A c T vs} (h : OwnSl e A c T vs) (hi : 0 < vs.length) : Safe A := by
  rcases h with ⟨-, -, rfl, rfl⟩ | ⟨b, junk, fr, -, rfl, -, -⟩
  · simp at hi
  · exact ⟨b, 0, rfl⟩
theorem OwnSl.safe {e A c T vs} (h : OwnSl e A c T vs) {i : Nat} (hi : i < vs.length) : Safe A := by
  rcases h with ⟨-, -, rfl, rfl⟩ | ⟨b, junk, fr, -, rfl, -, -⟩
  · simp at hi
  · exact ⟨b, 0, rfl⟩

section
variable {w0 w : World} {M : Mem} {H : List Ent}

theorem St.cell (s : St w0 M H w) {k b off : Nat} {l : List Value} {T : Nat} {fr : Nat × Nat} {v : Value} (hk : H[k]? = some (Blk b l T fr)) (hv : l[off]? = some v) : w.cell? ⟨b, off, none⟩ = some v := by
  have := (s.new k b _ hk).2
  simp [World.cell?, this, hv]
theorem St.mcell (s : St w0 M H w) {k b off : Nat} {l : List Value} {T : Nat} {fr : Nat × Nat} {v : Value} (hk : M[k]? = some (b, .cells l.toArray T fr)) (hv : l[off]? = some v) : w.cell? ⟨b, off, none⟩ = some v := by
  have := (s.mold k b _ hk).2
  simp [World.cell?, this, hv]
theorem cell_lt {w : World} {ad : Addr} {v : Value} (h : w.cell? ad = some v) : ad.block < w.heap.size := by
  unfold World.cell? at h
  split at h
  · rename_i h'; exact lt_of_some h'
  · simp at h
theorem St.oldcell (s : St w0 M H w) {ad : Addr} {v : Value} (h : w0.cell? ad = some v) (hM : ad.block ∉ M.map Prod.fst) : w.cell? ad = some v := by
  have hlt := cell_lt h
  have := s.old _ hlt hM
  unfold World.cell? at h ⊢
  rw [this]; exact h
theorem St.ocell (s : St w0 [] H w) {ad : Addr} {v : Value} (h : w0.cell? ad = some v) : w.cell? ad = some v := s.oldcell h (by simp)
theorem St.atH (s : St w0 M H w) {k b off : Nat} {l vs : List Value} {T : Nat} {fr : Nat × Nat} (hk : H[k]? = some (Blk b l T fr)) (hv : ∀ j v, vs[j]? = some v → l[off + j]? = some v) : At w b off vs :=
  fun j v hj => s.cell hk (hv j v hj)
theorem St.atM (s : St w0 M H w) {k b off : Nat} {l vs : List Value} {T : Nat} {fr : Nat × Nat} (hk : M[k]? = some (b, .cells l.toArray T fr)) (hv : ∀ j v, vs[j]? = some v → l[off + j]? = some v) : At w b off vs :=
  fun j v hj => s.mcell hk (hv j v hj)
theorem St.at_ (s : St w0 [] H w) {b off : Nat} {vs : List Value} (h : At w0 b off vs) : At w b off vs := fun j v hj => s.ocell (h j v hj)
theorem St.rd (s : St w0 [] H w) {A : Option Addr} {vs : List Value} (h : Rd w0 A vs) : Rd w A vs := by
  rcases h with h | ⟨b, off, rfl, h⟩
  · exact .inl h
  · exact .inr ⟨b, off, rfl, s.at_ h⟩
/-- old cells that no one writes -/
theorem St.rdM (s : St w0 M H w) {A : Option Addr} {vs : List Value} (h : Rd w0 A vs) (hA : ∀ a, A = some a → a.block ∉ M.map Prod.fst) : Rd w A vs := by
  rcases h with h | ⟨b, off, rfl, h⟩
  · exact .inl h
  · exact .inr ⟨b, off, rfl, fun j v hj => s.oldcell (h j v hj) (hA ⟨b, off, none⟩ rfl)⟩
theorem St.rdO (s : St w0 M H w) {k c T : Nat} {e : Ent} {A : Option Addr} {vs : List Value} (hk : H[k]? = some e) (h : OwnSl e A c T vs) : Rd w A vs := by
  rcases h with ⟨-, rfl, -, rfl⟩ | ⟨b, junk, fr, rfl, rfl, -, -⟩
  · exact .nil w
  · exact .inr ⟨b, 0, rfl, s.atH hk fun j v hj => by
      have hlt : j < vs.length := by
        rcases Nat.lt_or_ge j vs.length with h' | h'
        · exact h'
        · rw [List.getElem?_eq_none h'] at hj; simp at hj
      rw [List.getElem?_append_left (by omega)]; simpa using hj⟩

theorem St.rdH (s : St w0 M H w) {k b : Nat} {l : List Value} {T : Nat} {fr : Nat × Nat} (hk : H[k]? = some (Blk b l T fr)) : Rd w (some ⟨b, 0, none⟩) l :=
  .inr ⟨b, 0, rfl, s.atH hk fun j v hj => by simpa using hj⟩
theorem St.cellB (s : St w0 M H w) {k b i : Nat} {l : List Value} {T : Nat} {fr : Nat × Nat} {v : Value} (hk : H[k]? = some (Blk b l T fr)) (hv : l[i]? = some v) : w.cell? (adr (some ⟨b, 0, none⟩) i) = some v :=
  (s.rdH hk).cell hv
theorem Rd.append {w : World} {A : Option Addr} {vs us : List Value} (h : Rd w A (vs ++ us)) : Rd w A vs := by
  rcases h with h | ⟨b, off, rfl, h⟩
  · exact .inl (List.append_eq_nil_iff.1 h).1
  · refine .inr ⟨b, off, rfl, fun j v hj => h j v ?_⟩
    have hlt : j < vs.length := by
      rcases Nat.lt_or_ge j vs.length with h' | h'
      · exact h'
      · rw [List.getElem?_eq_none h'] at hj; simp at hj
    rw [List.getElem?_append_left hlt]; exact hj
/-- one block is given new contents -/
structure Upd (w : World) (b : Nat) (o : Obj) (w' : World) : Prop where
  os : w'.os = w.os
  tape : w'.tape = w.tape
  output : w'.output = w.output
  size : w'.heap.size = w.heap.size
  here : w'.heap[b]? = some o
  others : ∀ c, c ≠ b → w'.heap[c]? = w.heap[c]?
theorem Upd.trans {w w1 w2 : World} {b : Nat} {o o' : Obj} (h : Upd w b o w1) (k : Upd w1 b o' w2) : Upd w b o' w2 :=
  ⟨k.os.trans h.os, k.tape.trans h.tape, k.output.trans h.output, k.size.trans h.size, k.here, fun c hc => (k.others c hc).trans (h.others c hc)⟩
theorem St.updH (s : St w0 M H w) {k b : Nat} {o o' : Obj} {w' : World} (hk : H[k]? = some (some (b, o))) (u : Upd w b o' w') : St w0 M (H.set k (some (b, o'))) w' :=
  s.setH hk o' u.os u.tape u.output u.size u.here u.others
theorem St.updM (s : St w0 M H w) {k b : Nat} {o o' : Obj} {w' : World} (hk : M[k]? = some (b, o)) (u : Upd w b o' w') : St w0 (M.set k (b, o')) H w' :=
  s.setM hk o' u.os u.tape u.output u.size u.here u.others
theorem upd_setCell {w : World} {b off T : Nat} {l : List Value} {fr : Nat × Nat} (hg : w.heap[b]? = some (.cells l.toArray T fr)) (v : Value) :
    Upd w b (.cells (l.set off v).toArray T fr) (w.setCell ⟨b, off, none⟩ v) := by
  have hb := lt_of_some hg
  refine ⟨rfl, rfl, rfl, by simp [World.setCell], ?_, fun c hc => ?_⟩
  · have hg' : w.heap[b] = .cells l.toArray T fr := by simpa [Array.getElem?_eq_getElem hb] using hg
    simp [World.setCell, Array.getElem?_modify, hg, hg']
  · simp only [World.setCell, Array.getElem?_modify, if_neg (Ne.symm hc)]

theorem not_frozen {w : World} {b off T n : Nat} {l : List Value} {fr : Nat × Nat} (hg : w.heap[b]? = some (.cells l.toArray T fr)) (hf : NF fr n) (h : off < n) : w.frozen? ⟨b, off, none⟩ = false := by
  have := hf off h
  obtain ⟨lo, hi⟩ := fr
  simp only [World.frozen?, hg]
  simpa using fun h1 => Nat.le_of_not_lt fun h2 => this ⟨h1, h2⟩

def splice (l : List Value) (o : Nat) (vs : List Value) : List Value := l.take o ++ vs ++ l.drop (o + vs.length)
theorem splice_all {l vs : List Value} (h : l.length = vs.length) : splice l 0 vs = vs := by simp [splice, h]
theorem splice_length {l vs : List Value} {o : Nat} (h : o + vs.length ≤ l.length) : (splice l o vs).length = l.length := by simp [splice]; omega
theorem splice_cons {l vs : List Value} {o : Nat} {v : Value} (h : o < l.length) : splice l o (v :: vs) = splice (l.set o v) (o + 1) vs := by
  unfold splice
  apply List.ext_getElem?
  intro j
  simp only [List.append_assoc, List.getElem?_append, List.length_take, List.length_set, List.length_cons, List.cons_append, List.getElem?_take, List.getElem?_cons, List.getElem?_set, List.getElem?_drop]
  rw [Nat.min_eq_left (by omega), Nat.min_eq_left (by omega)]
  by_cases h1 : j < o
  · simp [h1, show j < o + 1 by omega, show ¬ o = j by omega]
  · by_cases h2 : j = o
    · subst h2; simp [h]
    · have : j - o = j - (o + 1) + 1 := by omega
      simp only [if_neg h1, if_neg (show ¬ j < o + 1 by omega), this, Nat.add_eq_zero_iff, Nat.one_ne_zero, and_false, if_false, Nat.add_sub_cancel, show ¬ (j - (o + 1) + 1 = 0) by omega]
      by_cases h3 : j - (o + 1) < vs.length
      · simp [h3]
      · simp only [if_neg h3, show ¬ (j - (o+1) + 1 < vs.length + 1) by omega, if_false]
        rw [if_neg (show ¬ o = o + 1 + vs.length + (j - (o + 1) - vs.length) by omega)]
        congr 1
        omega
theorem run_storeCells {P : Program} {b o T : Nat} {fr : Nat × Nat} : ∀ (vs : List Value) (i : Nat) (l : List Value) (w : World), w.heap[b]? = some (.cells l.toArray T fr) → o + i + vs.length ≤ l.length → NF fr l.length → (∀ v ∈ vs, v.oneCell' = true) →
    ∃ w', (storeCells ⟨b, o, none⟩ vs i).run P w = .ok () w' ∧ Upd w b (.cells (splice l (o + i) vs).toArray T fr) w'
  | [], i, l, w, hg, hl, hf, h1 => ⟨w, rfl, rfl, rfl, rfl, rfl, by simpa [splice] using hg, fun _ _ => rfl⟩
  | v :: vs, i, l, w, hg, hl, hf, h1 => by
    have hi : o + i < l.length := by simp at hl; omega
    have u := upd_setCell (off := o + i) hg v
    obtain ⟨w', h2, u'⟩ := run_storeCells (P := P) (o := o) vs (i + 1) (l.set (o + i) v) _ u.here (by simp at hl ⊢; omega) (by simpa using hf) (fun x hx => h1 x (by simp [hx]))
    refine ⟨w', ?_, ?_⟩
    · have hc : w.cell? ⟨b, o + i, none⟩ = some l[o + i] := by simp [World.cell?, hg, hi]
      have hst : (store ((⟨b, o, none⟩ : Addr).add i) v).run P w = .ok () (w.setCell ⟨b, o + i, none⟩ v) := by
        rw [add_norm, run_store P w _ v _ (h1 v (by simp)), hc]
        simp [not_frozen hg hf hi]
      simp only [storeCells, Sem.run_bind, hst, Result.andThen_ok, h2]
    · rw [splice_cons hi]
      exact u.trans u'
end

section
variable {P : Program} {ops rest : List Oper} {Q : Exit → Act → World → Prop} {n : Nat} {ds : List Deferred} {w0 : World} {env env' : Env} {M M' : Mem} {H H' : List Ent}
  {d ty : Nat} {pos : String} {aft : Array Edge} {g : Option (Nat × Bool)} {x y : Operand}

/-! ### new variables -/
theorem VL_alloc {t : Nat} {dd : TypeDesc} {z : Value} {sz by_ : Nat} {l : List Value} [TI P t dd z sz by_] (hw : Wanted ops env g) (hz : z.cells = l.toArray) (hl : Nat.blt d n = true)
    (h : ∀ b, VL P ops Q rest n ds w0 ((d, .pointer (some ⟨b, 0, none⟩)) :: env) M (H ++ [Blk b l t])) : VL P ops Q (⟨some d, .alloc t, ty, pos, aft, g⟩ :: rest) n ds w0 env M H :=
  VL_w (J := fun _ => True) (V := fun b => .pointer (some ⟨b, 0, none⟩)) (M' := fun _ => M) (H' := fun b => H ++ [Blk b l t]) hw hl (fun a w hr hs =>
    ⟨w.heap.size, _, by simp [execOp, Instr.alloc, TI.r_zero, newVar, newRow, hz], trivial, hs.alloc _⟩) (fun b _ => h b)
theorem VL_box {t : Nat} {v : Value} {l : List Value} (hw : Wanted ops env g) (hx : evo env x = some v) (hz : v.cells = l.toArray) (hl : Nat.blt d n = true)
    (h : ∀ b, VL P ops Q rest n ds w0 ((d, .pointer (some ⟨b, 0, none⟩)) :: env) M (H ++ [Blk b l t])) : VL P ops Q (⟨some d, .box t x, ty, pos, aft, g⟩ :: rest) n ds w0 env M H :=
  VL_w (J := fun _ => True) (V := fun b => .pointer (some ⟨b, 0, none⟩)) (M' := fun _ => M) (H' := fun b => H ++ [Blk b l t]) hw hl (fun a w hr hs =>
    ⟨w.heap.size, _, by simp [execOp, Instr.box, newVar, newRow, hz, hr.ev hx], trivial, hs.alloc _⟩) (fun b _ => h b)

/-! ### loads and stores -/
theorem VL_load {t : Nat} {dd : TypeDesc} {z v : Value} {sz by_ : Nat} {ad : Addr} [TI P t dd z sz by_] (hw : Wanted ops env g) (hd : dd.isRow = false) (hx : evo env x = some (.pointer (some ad)))
    (hc : ∀ w, St w0 M H w → w.cell? ad = some v) (hl : Nat.blt d n = true)
    (h : VL P ops Q rest n ds w0 ((d, v) :: env) M H) : VL P ops Q (⟨some d, .load t x, ty, pos, aft, g⟩ :: rest) n ds w0 env M H :=
  VL_v hw hl (fun a w hr hs => by simp [execOp, Instr.loadAt, Instr.sureAddr, hr.ev hx, loadVar, TI.r_agg, hd, hc w hs]) h
theorem VL_loadA {t : Nat} {dd : TypeDesc} {z : Value} {sz by_ b off : Nat} {cs : List Value} [TI P t dd z sz by_] (hw : Wanted ops env g) (hd : dd.isRow = true) (hx : evo env x = some (.pointer (some ⟨b, off, none⟩)))
    (hn : cs.length = sz) (hc : ∀ w, St w0 M H w → At w b off cs) (hl : Nat.blt d n = true)
    (h : VL P ops Q rest n ds w0 ((d, .agg cs.toArray) :: env) M H) : VL P ops Q (⟨some d, .load t x, ty, pos, aft, g⟩ :: rest) n ds w0 env M H :=
  VL_v hw hl (fun a w hr hs => by
    have := run_loadCells_list (P := P) w ⟨b, off, none⟩ cs (fun j v hj => by rw [add_norm]; exact hc w hs j v hj)
    subst hn
    simp [execOp, Instr.loadAt, Instr.sureAddr, hr.ev hx, loadVar, TI.r_agg, hd, TI.r_size, this]) h

theorem run_storeVar {t : Nat} {dd : TypeDesc} {z v : Value} {sz by_ b off T : Nat} {fr : Nat × Nat} {l vs : List Value} [TI P t dd z sz by_] (hv : v.cells = vs.toArray) (hn : vs.length = sz) (h1 : vs.all (·.oneCell') = true)
    {w : World} (hg : w.heap[b]? = some (.cells l.toArray T fr)) (hl : off + vs.length ≤ l.length) (hf : NF fr l.length) :
    ∃ w', (storeVar t ⟨b, off, none⟩ v).run P w = .ok () w' ∧ Upd w b (.cells (splice l off vs).toArray T fr) w' := by
  obtain ⟨w', h2, u⟩ := run_storeCells (P := P) vs 0 l w hg (by omega) hf (fun v hv => (List.all_eq_true.1 h1) v hv)
  refine ⟨w', ?_, u⟩
  simp [storeVar, TI.r_size, hv, hn, h2]
theorem VL_storeH {t : Nat} {dd : TypeDesc} {z v : Value} {sz by_ b off T k : Nat} {fr : Nat × Nat} {l vs : List Value} [TI P t dd z sz by_] (hw : Wanted ops env g)
    (hx : evo env x = some (.pointer (some ⟨b, off, none⟩))) (hy : evo env y = some v) (hv : v.cells = vs.toArray) (hn : vs.length = sz) (h1 : vs.all (·.oneCell') = true)
    (hk : H[k]? = some (Blk b l T fr)) (hl : off + vs.length ≤ l.length) (hf : NF fr l.length)
    (h : VL P ops Q rest n ds w0 env M (H.set k (Blk b (splice l off vs) T fr))) : VL P ops Q (⟨none, .store t x y, ty, pos, aft, g⟩ :: rest) n ds w0 env M H :=
  VL_s hw (fun a w hr hs => by
    obtain ⟨w', h2, u⟩ := run_storeVar (P := P) (t := t) hv hn h1 (hs.new k b _ hk).2 hl hf
    exact ⟨w', by simp [execOp, Instr.storeAt, Instr.sureAddr, hr.ev hx, hr.ev hy, h2], hs.updH hk u⟩) h
theorem VL_storeM {t : Nat} {dd : TypeDesc} {z v : Value} {sz by_ b off T k : Nat} {fr : Nat × Nat} {l vs : List Value} [TI P t dd z sz by_] (hw : Wanted ops env g)
    (hx : evo env x = some (.pointer (some ⟨b, off, none⟩))) (hy : evo env y = some v) (hv : v.cells = vs.toArray) (hn : vs.length = sz) (h1 : vs.all (·.oneCell') = true)
    (hk : M[k]? = some (b, .cells l.toArray T fr)) (hl : off + vs.length ≤ l.length) (hf : NF fr l.length)
    (h : VL P ops Q rest n ds w0 env (M.set k (b, .cells (splice l off vs).toArray T fr)) H) : VL P ops Q (⟨none, .store t x y, ty, pos, aft, g⟩ :: rest) n ds w0 env M H :=
  VL_s hw (fun a w hr hs => by
    obtain ⟨w', h2, u⟩ := run_storeVar (P := P) (t := t) hv hn h1 (hs.mold k b _ hk).2 hl hf
    exact ⟨w', by simp [execOp, Instr.storeAt, Instr.sureAddr, hr.ev hx, hr.ev hy, h2], hs.updM hk u⟩) h
theorem splice_one {l : List Value} {o : Nat} {v : Value} (h : o < l.length) : splice l o [v] = l.set o v := by
  rw [splice_cons h]; simp [splice]
/-- one cell -/
theorem VL_storeH1 {t : Nat} {dd : TypeDesc} {z v : Value} {by_ b off T k : Nat} {fr : Nat × Nat} {l : List Value} [TI P t dd z 1 by_] (hw : Wanted ops env g)
    (hx : evo env x = some (.pointer (some ⟨b, off, none⟩))) (hy : evo env y = some v) (h1 : v.oneCell' = true)
    (hk : H[k]? = some (Blk b l T fr)) (hl : off < l.length) (hf : NF fr l.length)
    (h : VL P ops Q rest n ds w0 env M (H.set k (Blk b (l.set off v) T fr))) : VL P ops Q (⟨none, .store t x y, ty, pos, aft, g⟩ :: rest) n ds w0 env M H :=
  VL_storeH (k := k) (vs := [v]) hw hx hy (by cases v <;> simp_all [Value.cells, Value.oneCell']) rfl (by simp [h1]) hk (by simp; omega) hf (by rw [splice_one hl]; exact h)
theorem VL_storeM1 {t : Nat} {dd : TypeDesc} {z v : Value} {by_ b off T k : Nat} {fr : Nat × Nat} {l : List Value} [TI P t dd z 1 by_] (hw : Wanted ops env g)
    (hx : evo env x = some (.pointer (some ⟨b, off, none⟩))) (hy : evo env y = some v) (h1 : v.oneCell' = true)
    (hk : M[k]? = some (b, .cells l.toArray T fr)) (hl : off < l.length) (hf : NF fr l.length)
    (h : VL P ops Q rest n ds w0 env (M.set k (b, .cells (l.set off v).toArray T fr)) H) : VL P ops Q (⟨none, .store t x y, ty, pos, aft, g⟩ :: rest) n ds w0 env M H :=
  VL_storeM (k := k) (vs := [v]) hw hx hy (by cases v <;> simp_all [Value.cells, Value.oneCell']) rfl (by simp [h1]) hk (by simp; omega) hf (by rw [splice_one hl]; exact h)
/-- into a block of the call's own, through a slice over all of it -/
theorem VL_storeB {t : Nat} {dd : TypeDesc} {z v : Value} {by_ b T k p : Nat} {fr : Nat × Nat} {l : List Value} [TI P t dd z 1 by_] (hw : Wanted ops env g)
    (hx : evo env x = some (.pointer (some (adr (some ⟨b, 0, none⟩) k)))) (hy : evo env y = some v) (h1 : v.oneCell' = true)
    (hk : H[p]? = some (Blk b l T fr)) (hl : k < l.length) (hf : NF fr l.length)
    (h : VL P ops Q rest n ds w0 env M (H.set p (Blk b (l.set k v) T fr))) : VL P ops Q (⟨none, .store t x y, ty, pos, aft, g⟩ :: rest) n ds w0 env M H :=
  VL_storeH1 (off := k) hw (by rw [hx]; simp [adr]) hy h1 hk hl hf h
/-- into a slice of the call's own -/
theorem OwnSl.upd {e : Ent} {A : Option Addr} {c T k : Nat} {vs : List Value} (ho : OwnSl e A c T vs) (hk : k < vs.length) (v : Value) :
    ∃ b l fr, e = Blk b l T fr ∧ adr A k = ⟨b, k, none⟩ ∧ k < l.length ∧ NF fr l.length ∧ OwnSl (Blk b (l.set k v) T fr) A c T (vs.set k v) := by
  rcases ho with ⟨-, -, -, rfl⟩ | ⟨b, junk, fr, rfl, rfl, rfl, hf⟩
  · simp at hk
  · refine ⟨b, vs ++ junk, fr, rfl, by simp [adr], by simp; omega, by simpa using hf, .inr ⟨b, junk, fr, ?_, rfl, by simp, hf⟩⟩
    rw [List.set_append_left _ _ hk]
theorem VL_storeO {t : Nat} {dd : TypeDesc} {z v : Value} {by_ T k p c : Nat} {e : Ent} {A : Option Addr} {vs : List Value} [TI P t dd z 1 by_] (hw : Wanted ops env g)
    (hx : evo env x = some (.pointer (some (adr A k)))) (hy : evo env y = some v) (h1 : v.oneCell' = true)
    (hp : H[p]? = some e) (ho : OwnSl e A c T vs) (hk : k < vs.length)
    (h : ∀ e', OwnSl e' A c T (vs.set k v) → VL P ops Q rest n ds w0 env M (H.set p e')) : VL P ops Q (⟨none, .store t x y, ty, pos, aft, g⟩ :: rest) n ds w0 env M H := by
  obtain ⟨b, l, fr, rfl, ha, hl, hf, ho'⟩ := ho.upd hk v
  rw [ha] at hx
  exact VL_storeH1 hw hx hy h1 hp hl hf (h _ ho')

/-! ### addresses -/
theorem VL_fieldAddr {t k b off o : Nat} [FA P t k o] (hw : Wanted ops env g)
    (hx : evo env x = some (.pointer (some ⟨b, off, none⟩))) (hl : Nat.blt d n = true)
    (h : VL P ops Q rest n ds w0 ((d, .pointer (some ⟨b, off + o, none⟩)) :: env) M H) : VL P ops Q (⟨some d, .fieldAddr t x k, ty, pos, aft, g⟩ :: rest) n ds w0 env M H :=
  VL_v hw hl (fun a w hr hs => by
    simp only [execOp, hr.ev hx, Sem.run_bind, FA.r_field, Result.andThen_ok, Sem.run_pure]) h
theorem VL_indexAddr_slice {t e : Nat} {z ze : Value} {sz by_ sze bye len cap : Nat} {de : TypeDesc} {A : Option Addr} {ik : IntKind} {i : Int} {i' : Nat} [TI P t (.slice e) z sz by_] [hT : TI P e de ze sze bye] (hw : Wanted ops env g)
    (hx : evo env x = some (.slice A len cap)) (hy : evo env y = some (.int ik i)) (hi : i = (i' : Int)) (hb : i' < len) (hA : Safe A) (hl : Nat.blt d n = true)
    (h : VL P ops Q rest n ds w0 ((d, .pointer (some (adr A (i' * sze)))) :: env) M H) : VL P ops Q (⟨some d, .indexAddr t x y, ty, pos, aft, g⟩ :: rest) n ds w0 env M H :=
  VL_v hw hl (fun a w hr hs => by
    obtain ⟨b, off, rfl⟩ := hA
    subst hi
    simp [execOp, Instr.indexAt, hr.ev hx, hr.ev hy, asIntOf, TI.r_und (P := P) (t := t), hb, hT.r_size, add_norm, adr]) h
theorem VL_indexAddr_array {t e len : Nat} {z ze : Value} {sz by_ sze bye b off : Nat} {de : TypeDesc} {ik : IntKind} {i : Int} {i' : Nat} [TI P t (.array len e) z sz by_] [hT : TI P e de ze sze bye] (hw : Wanted ops env g)
    (hx : evo env x = some (.pointer (some ⟨b, off, none⟩))) (hy : evo env y = some (.int ik i)) (hi : i = (i' : Int)) (hb : i' < len) (hl : Nat.blt d n = true)
    (h : VL P ops Q rest n ds w0 ((d, .pointer (some ⟨b, off + i' * sze, none⟩)) :: env) M H) : VL P ops Q (⟨some d, .indexAddr t x y, ty, pos, aft, g⟩ :: rest) n ds w0 env M H :=
  VL_v hw hl (fun a w hr hs => by
    subst hi
    simp [execOp, Instr.indexAt, Instr.sureAddr, hr.ev hx, hr.ev hy, asIntOf, TI.r_und (P := P) (t := t), hb, hT.r_size, add_norm]) h
theorem VL_indexAddr_slice1 {t e : Nat} {z ze : Value} {sz by_ bye len cap : Nat} {de : TypeDesc} {A : Option Addr} {ik : IntKind} {i : Int} {i' : Nat} [TI P t (.slice e) z sz by_] [hT : TI P e de ze 1 bye] (hw : Wanted ops env g)
    (hx : evo env x = some (.slice A len cap)) (hy : evo env y = some (.int ik i)) (hi : i = (i' : Int)) (hb : i' < len) (hA : Safe A) (hl : Nat.blt d n = true)
    (h : VL P ops Q rest n ds w0 ((d, .pointer (some (adr A i'))) :: env) M H) : VL P ops Q (⟨some d, .indexAddr t x y, ty, pos, aft, g⟩ :: rest) n ds w0 env M H :=
  VL_v hw hl (fun a w hr hs => by
    obtain ⟨b, off, rfl⟩ := hA
    subst hi
    simp [execOp, Instr.indexAt, hr.ev hx, hr.ev hy, asIntOf, TI.r_und (P := P) (t := t), hb, hT.r_size, add_norm, adr]) h
theorem VL_indexAddr_array1 {t e len : Nat} {z ze : Value} {sz by_ bye b off : Nat} {de : TypeDesc} {ik : IntKind} {i : Int} {i' : Nat} [TI P t (.array len e) z sz by_] [hT : TI P e de ze 1 bye] (hw : Wanted ops env g)
    (hx : evo env x = some (.pointer (some ⟨b, off, none⟩))) (hy : evo env y = some (.int ik i)) (hi : i = (i' : Int)) (hb : i' < len) (hl : Nat.blt d n = true)
    (h : VL P ops Q rest n ds w0 ((d, .pointer (some ⟨b, off + i', none⟩)) :: env) M H) : VL P ops Q (⟨some d, .indexAddr t x y, ty, pos, aft, g⟩ :: rest) n ds w0 env M H :=
  VL_v hw hl (fun a w hr hs => by
    subst hi
    simp [execOp, Instr.indexAt, Instr.sureAddr, hr.ev hx, hr.ev hy, asIntOf, TI.r_und (P := P) (t := t), hb, hT.r_size, add_norm]) h
theorem VL_len_slice {t e : Nat} {z : Value} {sz by_ len cap : Nat} {A : Option Addr} [TI P t (.slice e) z sz by_] (hw : Wanted ops env g)
    (hx : evo env x = some (.slice A len cap)) (hl : Nat.blt d n = true)
    (h : VL P ops Q rest n ds w0 ((d, .int .i64 (len : Int)) :: env) M H) : VL P ops Q (⟨some d, .call { callee := .builtin .len, args := #[x], argTypes := #[t] }, ty, pos, aft, g⟩ :: rest) n ds w0 env M H :=
  VL_v hw hl (fun a w hr hs => by simp [execOp, resolve, invoke, builtin, Builtin.len_, hr.ev hx, TI.r_und, goInt]) h
theorem VL_len_string {t : Nat} {z : Value} {sz by_ : Nat} {s : ByteArray} [TI P t .string z sz by_] (hw : Wanted ops env g)
    (hx : evo env x = some (.string s)) (hl : Nat.blt d n = true)
    (h : VL P ops Q rest n ds w0 ((d, .int .i64 (s.size : Int)) :: env) M H) : VL P ops Q (⟨some d, .call { callee := .builtin .len, args := #[x], argTypes := #[t] }, ty, pos, aft, g⟩ :: rest) n ds w0 env M H :=
  VL_v hw hl (fun a w hr hs => by simp [execOp, resolve, invoke, builtin, Builtin.len_, hr.ev hx, TI.r_und, goInt]) h
end
end Go.Proofs.YtpboahlpgfglkaaDoor.X
