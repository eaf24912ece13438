/-
  Own library, part 4: slices made, cut, grown and copied; aggregates; interfaces; calls.
-/
import Derived.Test.YtpboahlpgfglkaaDoorX3
namespace Go.Proofs.YtpboahlpgfglkaaDoor.X
open Go Go.RowKit
set_option linter.unusedVariables false
set_option linter.unusedSimpArgs false

/-- a part that is put: at a place, or behind -/
theorem St.put {w0 M H w} (h : St w0 M H w) (k : Nat) (o : Obj) : St w0 M (H.set k (some (w.heap.size, o))) { w with heap := w.heap.push o } := by
  have s := h.alloc o
  refine s.sub (fun i => if i = k ∧ k < H.length then H.length else i) (fun i b o' hi => ?_) (fun i j hi hj e => ?_)
  · rw [List.getElem?_set] at hi
    by_cases hk : k = i
    · subst hk
      by_cases hl : k < H.length
      · simp [hl] at hi ⊢; exact ⟨hi.1, hi.2⟩
      · simp [hl] at hi
    · rw [if_neg hk] at hi
      have hlt : i < H.length := by
        rcases Nat.lt_or_ge i H.length with h' | h'
        · exact h'
        · rw [List.getElem?_eq_none h'] at hi; simp at hi
      rw [if_neg (by omega), List.getElem?_append_left hlt]; exact hi
  · simp only [List.length_set] at hi hj
    split at e <;> split at e <;> omega

theorem St.none {w0 M H w} (h : St w0 M H w) : St w0 M (H ++ [Option.none]) w := by
  refine h.sub (fun i => i) (fun k b o hk => ?_) (fun i j _ _ e => e)
  rw [List.getElem?_append] at hk
  split at hk
  · exact hk
  · have : k - H.length = 0 := by
      rcases Nat.eq_zero_or_pos (k - H.length) with h0 | h0
      · exact h0
      · rw [List.getElem?_eq_none (by simp; omega)] at hk; simp at hk
    rw [this] at hk; simp at hk

/-- a callee's memory beside the caller's -/
theorem St.comp0 {w0 w w' : World} {M : Mem} {H H' : List Ent} (s : St w0 M H w) (t : St w [] H' w') : St w0 M (H ++ H') w' := by
  have lt : ∀ k b o, H[k]? = some (some (b, o)) → b < w.heap.size := fun k b o hk => lt_of_some (s.new k b o hk).2
  have split : ∀ k b o, (H ++ H')[k]? = some (some (b, o)) → (k < H.length ∧ H[k]? = some (some (b, o))) ∨ (H.length ≤ k ∧ H'[k - H.length]? = some (some (b, o))) := by
    intro k b o hk
    rw [List.getElem?_append] at hk
    split at hk
    · exact .inl ⟨‹_›, hk⟩
    · exact .inr ⟨by omega, hk⟩
  refine ⟨t.os.trans s.os, t.tape.trans s.tape, t.output.trans s.output, Nat.le_trans s.size t.size, fun b hb hn => ?_, fun k b o hk => ?_, s.mnd, fun k b o hk => ?_, fun i j b o o' hi hj => ?_⟩
  · rw [t.old b (Nat.lt_of_lt_of_le hb s.size) (by simp)]; exact s.old b hb hn
  · have := s.mold k b o hk
    refine ⟨this.1, ?_⟩
    rw [t.old b (Nat.lt_of_lt_of_le this.1 s.size) (by simp)]; exact this.2
  · rcases split k b o hk with ⟨h1, h2⟩ | ⟨h1, h2⟩
    · have := s.new k b o h2
      refine ⟨this.1, ?_⟩
      rw [t.old b (lt k b o h2) (by simp)]; exact this.2
    · have := t.new _ b o h2
      exact ⟨Nat.le_trans s.size this.1, this.2⟩
  · rcases split i b o hi with ⟨h1, h2⟩ | ⟨h1, h2⟩ <;> rcases split j b o' hj with ⟨h3, h4⟩ | ⟨h3, h4⟩
    · exact s.nd _ _ _ _ _ h2 h4
    · have a1 := lt _ _ _ h2
      have a2 := (t.new _ _ _ h4).1
      omega
    · have a1 := lt _ _ _ h4
      have a2 := (t.new _ _ _ h2).1
      omega
    · have := t.nd _ _ _ _ _ h2 h4
      omega
theorem St.comp {w0 w w' : World} {M : Mem} {H : List Ent} (s : St w0 M H w) (t : St w [] [] w') : St w0 M H w' := by simpa using s.comp0 t

/-- a callee that writes one of the caller's own blocks -/
theorem St.comp1 {w0 w w' : World} {M : Mem} {H H' : List Ent} {k b : Nat} {o o' : Obj} (s : St w0 M H w) (hk : H[k]? = some (some (b, o))) (t : St w [(b, o')] H' w') : St w0 M (H.set k (some (b, o')) ++ H') w' := by
  have hb := s.new k b o hk
  have hbl := lt_of_some hb.2
  have hkl : k < H.length := by
    rcases Nat.lt_or_ge k H.length with h' | h'
    · exact h'
    · rw [List.getElem?_eq_none h'] at hk; simp at hk
  have new' : w'.heap[b]? = some o' := (t.mold 0 b o' rfl).2
  have keep : ∀ c, c < w.heap.size → c ≠ b → w'.heap[c]? = w.heap[c]? := fun c hc hn => t.old c hc (by simp [hn])
  -- the state ahead of the new blocks
  have lt : ∀ k b o, H[k]? = some (some (b, o)) → b < w.heap.size := fun k b o hk => lt_of_some (s.new k b o hk).2
  have own : ∀ i c q, (H.set k (some (b, o')))[i]? = some (some (c, q)) → (i = k ∧ c = b ∧ q = o') ∨ (i ≠ k ∧ H[i]? = some (some (c, q)) ∧ c ≠ b) := by
    intro i c q hi
    rw [List.getElem?_set] at hi
    by_cases e : k = i
    · subst e
      simp [hkl] at hi
      exact .inl ⟨rfl, hi.1.symm, hi.2.symm⟩
    · rw [if_neg e] at hi
      exact .inr ⟨fun x => e x.symm, hi, fun x => by subst x; exact e (s.nd _ _ _ _ _ hk hi)⟩
  have split : ∀ i c q, (H.set k (some (b, o')) ++ H')[i]? = some (some (c, q)) → (i < H.length ∧ (H.set k (some (b, o')))[i]? = some (some (c, q)) ∧ c < w.heap.size) ∨ (H.length ≤ i ∧ H'[i - H.length]? = some (some (c, q)) ∧ w.heap.size ≤ c) := by
    intro i c q hi
    rw [List.getElem?_append] at hi
    simp only [List.length_set] at hi
    split at hi
    · refine .inl ⟨‹_›, hi, ?_⟩
      rcases own i c q hi with ⟨rfl, rfl, rfl⟩ | ⟨_, h2, _⟩
      · exact hbl
      · exact lt _ _ _ h2
    · exact .inr ⟨by omega, hi, (t.new _ _ _ hi).1⟩
  refine ⟨t.os.trans s.os, t.tape.trans s.tape, t.output.trans s.output, Nat.le_trans s.size t.size, fun c hc hn => ?_, fun i c q hi => ?_, s.mnd, fun i c q hi => ?_, fun i j c q q' hi hj => ?_⟩
  · rw [keep c (Nat.lt_of_lt_of_le hc s.size) (by omega)]; exact s.old c hc hn
  · have := s.mold i c q hi
    refine ⟨this.1, ?_⟩
    rw [keep c (Nat.lt_of_lt_of_le this.1 s.size) (by omega)]; exact this.2
  · rcases split i c q hi with ⟨h1, h2, h3⟩ | ⟨h1, h2, h3⟩
    · rcases own i c q h2 with ⟨rfl, rfl, rfl⟩ | ⟨_, h5, h6⟩
      · exact ⟨hb.1, new'⟩
      · have := s.new i c q h5
        exact ⟨this.1, by rw [keep c h3 h6]; exact this.2⟩
    · exact ⟨Nat.le_trans s.size h3, (t.new _ _ _ h2).2⟩
  · rcases split i c q hi with ⟨h1, h2, h3⟩ | ⟨h1, h2, h3⟩ <;> rcases split j c q' hj with ⟨h4, h5, h6⟩ | ⟨h4, h5, h6⟩
    · rcases own i c q h2 with ⟨rfl, rfl, rfl⟩ | ⟨_, x2, x3⟩ <;> rcases own j c q' h5 with ⟨y1, y2, y3⟩ | ⟨_, y2, y3⟩
      · exact y1.symm
      · exact absurd rfl y3
      · exact absurd y2 x3
      · exact s.nd _ _ _ _ _ x2 y2
    · omega
    · omega
    · have := t.nd _ _ _ _ _ h2 h5
      omega
/-- a callee that writes one older block that the caller may write -/
theorem St.compM {w0 w w' : World} {M : Mem} {H H' : List Ent} {k b : Nat} {o o' : Obj} (s : St w0 M H w) (hk : M[k]? = some (b, o)) (t : St w [(b, o')] H' w') : St w0 (M.set k (b, o')) (H ++ H') w' := by
  have hb := s.mold k b o hk
  have hbl := lt_of_some hb.2
  have new' : w'.heap[b]? = some o' := (t.mold 0 b o' rfl).2
  have keep : ∀ c, c < w.heap.size → c ≠ b → w'.heap[c]? = w.heap[c]? := fun c hc hn => t.old c hc (by simp [hn])
  have hkl : k < M.length := by
    rcases Nat.lt_or_ge k M.length with h' | h'
    · exact h'
    · rw [List.getElem?_eq_none h'] at hk; simp at hk
  have hmem : b ∈ M.map Prod.fst := List.mem_map.2 ⟨(b, o), List.mem_of_getElem? hk, rfl⟩
  have hmap : (M.set k (b, o')).map Prod.fst = M.map Prod.fst := by
    apply List.ext_getElem?
    intro i
    simp only [List.getElem?_map, List.getElem?_set]
    by_cases e : k = i
    · subst e; rw [hk]; simp [hkl]
    · rw [if_neg e]
  have own : ∀ i c q, (M.set k (b, o'))[i]? = some (c, q) → (i = k ∧ c = b ∧ q = o') ∨ (i ≠ k ∧ M[i]? = some (c, q) ∧ c ≠ b) := by
    intro i c q hi
    rw [List.getElem?_set] at hi
    by_cases e : k = i
    · subst e
      simp [hkl] at hi
      exact .inl ⟨rfl, hi.1.symm, hi.2.symm⟩
    · rw [if_neg e] at hi
      exact .inr ⟨fun x => e x.symm, hi, fun x => by subst x; exact e (s.mnd _ _ _ _ _ hk hi)⟩
  have lt : ∀ k b o, H[k]? = some (some (b, o)) → b < w.heap.size := fun k b o hk => lt_of_some (s.new k b o hk).2
  have split : ∀ i c q, (H ++ H')[i]? = some (some (c, q)) → (i < H.length ∧ H[i]? = some (some (c, q))) ∨ (H.length ≤ i ∧ H'[i - H.length]? = some (some (c, q))) := by
    intro i c q hi
    rw [List.getElem?_append] at hi
    split at hi
    · exact .inl ⟨‹_›, hi⟩
    · exact .inr ⟨by omega, hi⟩
  refine ⟨t.os.trans s.os, t.tape.trans s.tape, t.output.trans s.output, Nat.le_trans s.size t.size, fun c hc hn => ?_, fun i c q hi => ?_, fun i j c q q' hi hj => ?_, fun i c q hi => ?_, fun i j c q q' hi hj => ?_⟩
  · rw [hmap] at hn
    rw [keep c (Nat.lt_of_lt_of_le hc s.size) (fun e => hn (e ▸ hmem))]; exact s.old c hc hn
  · rcases own i c q hi with ⟨rfl, rfl, rfl⟩ | ⟨_, x2, x3⟩
    · exact ⟨hb.1, new'⟩
    · have := s.mold i c q x2
      exact ⟨this.1, by rw [keep c (Nat.lt_of_lt_of_le this.1 s.size) x3]; exact this.2⟩
  · rcases own i c q hi with ⟨rfl, rfl, rfl⟩ | ⟨_, x2, x3⟩ <;> rcases own j c q' hj with ⟨y1, y2, y3⟩ | ⟨_, y2, y3⟩
    · exact y1.symm
    · exact absurd rfl y3
    · exact absurd y2 x3
    · exact s.mnd _ _ _ _ _ x2 y2
  · rcases split i c q hi with ⟨h1, h2⟩ | ⟨h1, h2⟩
    · have := s.new i c q h2
      exact ⟨this.1, by rw [keep c (lt _ _ _ h2) (by omega)]; exact this.2⟩
    · have := t.new _ c q h2
      exact ⟨Nat.le_trans s.size this.1, this.2⟩
  · rcases split i c q hi with ⟨h1, h2⟩ | ⟨h1, h2⟩ <;> rcases split j c q' hj with ⟨h3, h4⟩ | ⟨h3, h4⟩
    · exact s.nd _ _ _ _ _ h2 h4
    · have a1 := lt _ _ _ h2
      have a2 := (t.new _ _ _ h4).1
      omega
    · have a1 := lt _ _ _ h4
      have a2 := (t.new _ _ _ h2).1
      omega
    · have := t.nd _ _ _ _ _ h2 h4
      omega

section
variable {P : Program} {ops rest : List Oper} {Q : Exit → Act → World → Prop} {n : Nat} {ds : List Deferred} {w0 : World} {env env' : Env} {M M' : Mem} {H H' : List Ent}
  {d ty : Nat} {pos : String} {aft : Array Edge} {g : Option (Nat × Bool)} {x y : Operand}

/-! ### calls -/
def evos (env : Env) : List Operand → Option (List Value)
  | [] => some []
  | x :: r => match evo env x, evos env r with
    | some v, some vs => some (v :: vs)
    | _, _ => none
theorem Rep.evs {a : Act} (h : Rep n ds env a) : ∀ {xs : List Operand} {vs : List Value}, evos env xs = some vs → xs.map a.eval = vs
  | [], vs, hv => by simp [evos] at hv; subst hv; rfl
  | x :: r, vs, hv => by
    simp only [evos] at hv
    split at hv
    · rename_i v vs' h1 h2
      simp at hv
      subst hv
      simp [h.ev h1, Rep.evs h h2]
    · simp at hv
theorem run_callFunc {f : FuncId} [h : Fn P f] (args : Array Value) (w : World) : (callFunc f args).run P w = .ok (.enter f args) w := by
  obtain ⟨fn, h1, h2, h3⟩ := h.ok
  simp [callFunc, h1, h2, h3]
  split
  · rename_i h4; rw [h4] at h2; simp at h2
  · rw [if_neg (by intro hn; rw [hn] at h3; simp at h3)]
theorem VL_call {f : FuncId} [Fn P f] {xs : List Operand} {ts : Array Nat} {vs : List Value} {R : World → Value → World → Prop} (hw : Wanted ops env g) (hx : evos env xs = some vs) (hl : Nat.blt d n = true)
    (hC : ∀ w, St w0 M H w → Calls P f vs.toArray w (Ret (R w)))
    (h : ∀ w v w', St w0 M H w → R w v w' → ∃ M' H', St w0 M' H' w' ∧ VL P ops Q rest n ds w0 ((d, v) :: env) M' H') :
    VL P ops Q (⟨some d, .call { callee := .value (.func f), args := xs.toArray, argTypes := ts }, ty, pos, aft, g⟩ :: rest) n ds w0 env M H := by
  refine ⟨fun a w hr hs => ?_⟩
  unfold wpList
  rw [hw.true_ hr rfl]
  simp only [if_true]
  refine .inl ?_
  unfold Oper.wp
  have hrun : (execOp a.eval ⟨some d, .call { callee := .value (.func f), args := xs.toArray, argTypes := ts }, ty, pos, aft, g⟩).run P w = .ok (.enter f vs.toArray) w := by
    have := hr.evs hx
    simp only [execOp, resolve, Act.eval, Deferred.ofValue, Sem.run_bind, Sem.run_pure, Result.andThen_ok, invoke]
    have e : (#[] ++ Array.map a.eval xs.toArray ++ #[]) = vs.toArray := by simp [this]
    simpa [this] using run_callFunc (P := P) (f := f) vs.toArray w
  rw [hrun]
  refine (hC w hs).mono ?_
  rintro e w' ⟨v, rfl, hR⟩
  obtain ⟨M', H', s', k⟩ := h w v w' hs hR
  exact k _ _ (hr.put hl) s'
theorem VL_call0 {f : FuncId} [Fn P f] {xs : List Operand} {ts : Array Nat} {vs : List Value} {R : World → Value → World → Prop} (hw : Wanted ops env g) (hx : evos env xs = some vs)
    (hC : ∀ w, St w0 M H w → Calls P f vs.toArray w (Ret (R w)))
    (h : ∀ w v w', St w0 M H w → R w v w' → ∃ M' H', St w0 M' H' w' ∧ VL P ops Q rest n ds w0 env M' H') :
    VL P ops Q (⟨none, .call { callee := .value (.func f), args := xs.toArray, argTypes := ts }, ty, pos, aft, g⟩ :: rest) n ds w0 env M H := by
  refine ⟨fun a w hr hs => ?_⟩
  unfold wpList
  rw [hw.true_ hr rfl]
  simp only [if_true]
  refine .inl ?_
  unfold Oper.wp
  have hrun : (execOp a.eval ⟨none, .call { callee := .value (.func f), args := xs.toArray, argTypes := ts }, ty, pos, aft, g⟩).run P w = .ok (.enter f vs.toArray) w := by
    have := hr.evs hx
    simp only [execOp, resolve, Act.eval, Deferred.ofValue, Sem.run_bind, Sem.run_pure, Result.andThen_ok, invoke]
    simpa [this] using run_callFunc (P := P) (f := f) vs.toArray w
  rw [hrun]
  refine (hC w hs).mono ?_
  rintro e w' ⟨v, rfl, hR⟩
  obtain ⟨M', H', s', k⟩ := h w v w' hs hR
  exact k _ _ hr s'

/-! ### slices made -/
theorem madeCells_one {z : Value} {m : Nat} : madeCells #[z] (m * 1) = (List.replicate m z).toArray := by
  apply Array.ext'
  apply List.ext_getElem?
  intro i
  simp [madeCells, List.getElem?_range, List.getElem?_replicate]
  by_cases h : i < m <;> simp [h, Nat.mod_one]
/-- make: the block itself -/
theorem VL_makeBlk {t e : Nat} {z ze : Value} {sz by_ bye : Nat} {de : TypeDesc} {kl kc : IntKind} {l c : Int} {l' c' : Nat} [hT : TI P t (.slice e) z sz by_] [hE : TI P e de ze 1 bye] (hw : Wanted ops env g)
    (hx : evo env x = some (.int kl l)) (hy : evo env y = some (.int kc c)) (hz : ze.cells = #[ze]) (hl' : l = (l' : Int)) (hc' : c = (c' : Int)) (hlc : l' ≤ c') (hb : bye * c' ≤ 281474976710656) (h63 : c' ≤ 9223372036854775807) (hl : Nat.blt d n = true)
    (h : ∀ b, VL P ops Q rest n ds w0 ((d, .slice (some ⟨b, 0, none⟩) l' c') :: env) M (H ++ [Blk b (List.replicate c' ze) e])) :
    VL P ops Q (⟨some d, .makeSlice t x y, ty, pos, aft, g⟩ :: rest) n ds w0 env M H := by
  refine VL_w (ι := Nat) (J := fun b => True) (V := fun b => .slice (some ⟨b, 0, none⟩) l' c') (M' := fun _ => M) (H' := fun b => H ++ [Blk b (List.replicate c' ze) e]) hw hl ?_ (fun b _ => h b)
  intro a w hr hs
  obtain ⟨i, h1, h2, h3, h4⟩ := hE.get
  refine ⟨w.heap.size, _, ?_, trivial, hs.alloc _⟩
  subst hl' hc'
  have hb' : (i.bytes : Int) * (c' : Int) ≤ 281474976710656 := by
    rw [h4]
    have h' : ((bye * c' : Nat) : Int) ≤ 281474976710656 := by omega
    rwa [Int.natCast_mul] at h'
  have := run_make (P := P) w t e i ze hT.und h1 h2 kl kc (l' : Int) (c' : Int) (by omega) (by omega) hb' (by omega)
  rw [h3, hz, Int.toNat_natCast, Int.toNat_natCast, madeCells_one] at this
  simp [execOp, hr.ev hx, hr.ev hy, this]
theorem VL_makeSlice {t e : Nat} {z ze : Value} {sz by_ bye : Nat} {de : TypeDesc} {kl kc : IntKind} {l c : Int} {l' c' : Nat} [hT : TI P t (.slice e) z sz by_] [hE : TI P e de ze 1 bye] (hw : Wanted ops env g)
    (hx : evo env x = some (.int kl l)) (hy : evo env y = some (.int kc c)) (hz : ze.cells = #[ze]) (hl' : l = (l' : Int)) (hc' : c = (c' : Int)) (hlc : l' ≤ c') (hb : bye * c' ≤ 281474976710656) (h63 : c' ≤ 9223372036854775807) (hl : Nat.blt d n = true)
    (h : ∀ ent A, OwnSl ent A c' e (List.replicate l' ze) → VL P ops Q rest n ds w0 ((d, .slice A l' c') :: env) M (H ++ [ent])) :
    VL P ops Q (⟨some d, .makeSlice t x y, ty, pos, aft, g⟩ :: rest) n ds w0 env M H := by
  refine VL_makeBlk hw hx hy hz hl' hc' hlc hb h63 hl (fun b => h _ _ (.inr ⟨b, List.replicate (c' - l') ze, (0, 0), ?_, rfl, by simp; omega, NF.zero _⟩))
  rw [List.replicate_append_replicate, show l' + (c' - l') = c' by omega]

/-! ### slices grown -/
theorem rd_first {w : World} {A : Option Addr} {vs : List Value} {c : Nat} (h : Rd w A vs) {tx e' : TypeId} (hk : P.underlying tx = some (.slice e')) (h1 : vs.all (·.oneCell') = true) : Src P 1 tx (.slice A vs.length c) vs.length vs w := by
  rcases h with rfl | ⟨b, off, rfl, h⟩
  · cases A with
    | none => exact Src.ofNil (P := P) w hk c
    | some a => exact Src.ofSlice (P := P) w hk a 0 c [] (by simp) (fun j u hj => by simp at hj) (by simp)
  · exact Src.ofSlice (P := P) w hk ⟨b, off, none⟩ vs.length c vs (by simp) (fun j u hj => by rw [add_norm]; exact h j u hj) (List.all_eq_true.1 h1)
theorem zeroCells_one {z : Value} {m : Nat} : Builtin.zeroCells #[z] m = (List.replicate m z).toArray := by
  apply Array.ext'
  apply List.ext_getElem?
  intro i
  simp [Builtin.zeroCells, List.getElem?_range, List.getElem?_replicate]
  by_cases h : i < m <;> simp [h, Nat.mod_one]
theorem append_run {t tx e : Nat} {z ze : Value} {sz by_ bye c p : Nat} {de : TypeDesc} {vs news : List Value} {ent : Ent} {A : Option Addr} {v : Value} [hT : TI P t (.slice e) z sz by_] [hE : TI P e de ze 1 bye]
    (hz : ze.cells = #[ze]) {w : World} (hs : St w0 M H w) (hp : H[p]? = some ent) (ho : OwnSl ent A c e vs) (h1 : vs.all (·.oneCell') = true) (src : Src P 1 tx v news.length news w)
    (hb : (vs.length + news.length) * bye ≤ 140737488355328) (hbye : 0 < bye) (tyy : Nat) :
    ∃ ent' A' c' w', (Builtin.append_ #[t, tx] tyy #[.slice A vs.length c, v]).run P w = .ok (.slice A' (vs.length + news.length) c') w' ∧ OwnSl ent' A' c' e (vs ++ news) ∧ St w0 M (H.set p ent') w' := by
  obtain ⟨i, i1, i2, i3, i4⟩ := hE.get
  have hle := ho.le
  have h63 : vs.length + news.length ≤ 140737488355328 := Nat.le_trans (Nat.le_mul_of_pos_right _ hbye) hb
  by_cases hroom : vs.length + news.length ≤ c
  · -- there is room
    rcases ho with ⟨rfl, rfl, rfl, rfl⟩ | ⟨b, junk, fr, rfl, rfl, hcap, hf⟩
    · simp at hroom
      subst hroom
      refine ⟨none, none, 0, w, ?_, .nil e, ?_⟩
      · have hc0 := src.cells
        have hl0 := src.len
        simp only [List.length_nil] at hc0 hl0
        rcases src.kind with ⟨e', hk⟩ | hk <;> simp [Builtin.append_, run_underlying hT.und, run_underlying hk, sizeOf, typeInfo, i1, hl0, i3, hc0]
      · have : H.set p none = H := by
          apply List.ext_getElem?
          intro j
          rw [List.getElem?_set]
          split
          · subst_vars; split
            · exact hp.symm
            · rename_i h'; rw [List.getElem?_eq_none (by omega)]
          · rfl
        rw [this]; exact hs
    · have hg := (hs.new p b _ hp).2
      have hlen : (vs ++ junk).length = vs.length + junk.length := by simp
      obtain ⟨w', r, u⟩ := run_storeCells (P := P) (o := 0 + vs.length * 1) news 0 (vs ++ junk) w hg (by simp; omega) (by rw [hlen, ← hcap]; exact hf) src.one
      refine ⟨Blk b (vs ++ news ++ junk.drop news.length) e fr, some ⟨b, 0, none⟩, c, w', ?_, .inr ⟨b, junk.drop news.length, fr, rfl, rfl, by simp; omega, hf⟩, ?_⟩
      · rcases src.kind with ⟨e', hk⟩ | hk <;> simp [Builtin.append_, run_underlying hT.und, run_underlying hk, sizeOf, typeInfo, i1, src.len, hroom, i3, src.cells, add_norm] <;> simp at r <;> simp [r]
      · have e1 : splice (vs ++ junk) (0 + vs.length * 1 + 0) news = vs ++ news ++ junk.drop news.length := by
          simp only [splice, Nat.zero_add, Nat.mul_one, Nat.add_zero, List.take_left', List.append_assoc]
          rw [List.drop_append, List.drop_eq_nil_of_le (by omega)]
          simp
        rw [e1] at u
        exact hs.updH hp u
  · -- a new row
    have hold : (Builtin.firstCells i.size vs.length (.slice A vs.length c)).run P w.drew = .ok vs.toArray w.drew := by
      rw [i3]
      rcases (show Rd w A vs from hs.rdO hp ho) with rfl | ⟨b, off, rfl, hat⟩
      · cases A with
        | none => exact run_firstCells_none w.drew 1 0 0 c
        | some a => exact run_firstCells_some w.drew 1 0 a 0 c [] (by simp) (fun j u hj => by simp at hj)
      · exact run_firstCells_some w.drew 1 vs.length ⟨b, off, none⟩ vs.length c vs (by simp) (fun j u hj => by rw [add_norm]; exact hat j u hj)
    have src' : Src P i.size tx v news.length news w := by rw [i3]; exact src
    have r := run_append_grow_src (P := P) w t tx tyy e i ze hT.und i1 i2 A vs.length c vs hold v news.length news src' (by omega) (by omega) (growslice_fits (by omega) (by rw [i4]; exact hb))
    rw [hz, zeroCells_one] at r
    have hcap : vs.length + news.length ≤ grownCap w (vs.length + news.length) c e := by
      unfold grownCap Question.cut; simp
    refine ⟨_, _, _, _, r, .inr ⟨w.heap.size, List.replicate (grownCap w (vs.length + news.length) c e - (vs.length + news.length)) ze, (0, 0), rfl, rfl, by simp; omega, NF.zero _⟩, ?_⟩
    have s1 := ((hs.drew (w.drawn + 1)).put p (.cells (vs ++ news ++ List.replicate (grownCap w (vs.length + news.length) c e - (vs.length + news.length)) ze).toArray e))
    have e2 : (vs ++ news ++ List.replicate (grownCap w (vs.length + news.length) c e - (vs.length + news.length)) ze).toArray = (vs ++ news).toArray ++ (List.replicate (grownCap w (vs.length + news.length) c e - (vs.length + news.length)) ze).toArray := by simp
    rw [e2] at s1
    show St w0 M (H.set p (some (w.heap.size, .cells (vs ++ news ++ List.replicate (grownCap w (vs.length + news.length) c e - (vs.length + news.length)) ze).toArray e (0, 0)))) _
    rw [e2]
    exact s1
theorem VL_append {t tx e e2 : Nat} {z ze z2 : Value} {sz by_ bye sz2 by2 c c2 p m l r : Nat} {de : TypeDesc} {vs news : List Value} {ent : Ent} {A A2 : Option Addr} [hT : TI P t (.slice e) z sz by_] [hE : TI P e de ze 1 bye] [hT2 : TI P tx (.slice e2) z2 sz2 by2] (hw : Wanted ops env g)
    (hx : evo env x = some (.slice A l c)) (hy : evo env y = some (.slice A2 m c2)) (hz : ze.cells = #[ze]) (hp : H[p]? = some ent) (ho : OwnSl ent A c e vs) (hlv : l = vs.length) (h1 : vs.all (·.oneCell') = true)
    (hm : m = news.length) (hrd : ∀ w, St w0 M H w → Rd w A2 news) (h2 : news.all (·.oneCell') = true)
    (hbp : Nat.beq bye 0 = false) (hlr : vs.length + news.length = r) (hb : r * bye ≤ 140737488355328) (hl : Nat.blt d n = true)
    (h : ∀ ent' A' c', OwnSl ent' A' c' e (vs ++ news) → VL P ops Q rest n ds w0 ((d, .slice A' r c') :: env) M (H.set p ent')) :
    VL P ops Q (⟨some d, .call { callee := .builtin .append, args := #[x, y], argTypes := #[t, tx] }, ty, pos, aft, g⟩ :: rest) n ds w0 env M H := by
  subst hm hlv hlr
  refine VL_w (ι := Ent × Option Addr × Nat) (J := fun i => OwnSl i.1 i.2.1 i.2.2 e (vs ++ news)) (V := fun i => .slice i.2.1 (vs.length + news.length) i.2.2) (M' := fun _ => M) (H' := fun i => H.set p i.1) hw hl ?_ (fun i hi => h _ _ _ hi)
  intro a w hr hs
  obtain ⟨ent', A', c', w', r, o', s'⟩ := append_run (P := P) (t := t) (tx := tx) hz hs hp ho h1 (rd_first (P := P) (c := c2) (hrd w hs) hT2.und h2) hb (Nat.pos_of_ne_zero fun e => by subst e; simp at hbp) ty
  exact ⟨(ent', A', c'), w', by simp [execOp, resolve, invoke, builtin, hr.ev hx, hr.ev hy, r], o', s'⟩
/-- onto the nil slice: the result is new -/
theorem VL_append_nil {t tx e e2 : Nat} {z ze z2 : Value} {sz by_ bye sz2 by2 c2 m : Nat} {de : TypeDesc} {news : List Value} {A2 : Option Addr} [hT : TI P t (.slice e) z sz by_] [hE : TI P e de ze 1 bye] [hT2 : TI P tx (.slice e2) z2 sz2 by2] (hw : Wanted ops env g)
    (hx : evo env x = some (.slice none 0 0)) (hy : evo env y = some (.slice A2 m c2)) (hz : ze.cells = #[ze])
    (hm : m = news.length) (hrd : ∀ w, St w0 M H w → Rd w A2 news) (h2 : news.all (·.oneCell') = true)
    (hbp : Nat.beq bye 0 = false) (hb : m * bye ≤ 140737488355328) (hl : Nat.blt d n = true)
    (h : ∀ ent' A' c', OwnSl ent' A' c' e news → VL P ops Q rest n ds w0 ((d, .slice A' m c') :: env) M (H ++ [ent'])) :
    VL P ops Q (⟨some d, .call { callee := .builtin .append, args := #[x, y], argTypes := #[t, tx] }, ty, pos, aft, g⟩ :: rest) n ds w0 env M H := by
  subst hm
  refine VL_w (ι := Ent × Option Addr × Nat) (J := fun i => OwnSl i.1 i.2.1 i.2.2 e news) (V := fun i => .slice i.2.1 news.length i.2.2) (M' := fun _ => M) (H' := fun i => H ++ [i.1]) hw hl ?_ (fun i hi => h _ _ _ hi)
  intro a w hr hs
  obtain ⟨ent', A', c', w', r, o', s'⟩ := append_run (P := P) (t := t) (tx := tx) (p := H.length) hz hs.none (by simp) (OwnSl.nil e) rfl (rd_first (P := P) (c := c2) (hrd w hs) hT2.und h2) (by simpa using hb) (Nat.pos_of_ne_zero fun e => by subst e; simp at hbp) ty
  simp only [List.length_nil, Nat.zero_add, List.nil_append] at r o'
  refine ⟨(ent', A', c'), w', by simp [execOp, resolve, invoke, builtin, hr.ev hx, hr.ev hy, r], o', ?_⟩
  simpa using s'
end
end Go.Proofs.YtpboahlpgfglkaaDoor.X
