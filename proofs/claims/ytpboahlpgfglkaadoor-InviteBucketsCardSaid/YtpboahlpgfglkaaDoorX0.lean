/-
  Own library, part 0: what is known of a frame (a list of slots with their values) and of memory (a list of blocks of the call's own), and one rule for each operation.
-/
import Derived.Tactics
import Derived.Below
import Derived.KernelRfl
namespace Go.Proofs.YtpboahlpgfglkaaDoor.X
open Go Go.RowKit
set_option linter.unusedVariables false

/-! ### frames -/
abbrev Env := List (Nat × Value)
def look : Env → Nat → Option Value
  | [], _ => none
  | (k, v) :: r, i => bif Nat.beq k i then some v else look r i
def evo (env : Env) : Operand → Option Value
  | .tmp t => look env t
  | .const v => some v
  | .global g => some (.pointer (some ⟨g, 0, none⟩))
  | .func f => some (.func (.func f) #[] #[])

structure Rep (n : Nat) (ds : List Deferred) (env : Env) (a : Act) : Prop where
  size : a.tmps.size = n
  df : a.defers = ds
  at_ : ∀ i v, look env i = some v → a.tmps[i]? = some v

theorem Rep.ev {n ds env a x v} (h : Rep n ds env a) (hx : evo env x = some v) : a.eval x = v := by
  cases x with
  | tmp t => have := h.at_ t v hx; simp [Act.eval, this]
  | const u => simpa [evo, Act.eval] using hx
  | global g => simpa [evo, Act.eval] using hx
  | func f => simpa [evo, Act.eval] using hx

theorem Rep.put {n ds env a d v} (h : Rep n ds env a) (hd : Nat.blt d n = true) : Rep n ds ((d, v) :: env) (a.put (some d) v) := by
  have hd' : d < n := by simpa [Nat.blt_eq] using hd
  refine ⟨by simp [Act.put, h.size], by simp [Act.put, h.df], fun i u hi => ?_⟩
  simp only [look] at hi
  have hs := h.size
  by_cases e : d = i
  · subst e
    simp at hi
    subst hi
    simp [Act.put, hs, hd']
  · have : Nat.beq d i = false := by
      cases hb : Nat.beq d i
      · rfl
      · exact absurd (Nat.eq_of_beq_eq_true hb) e
    rw [this] at hi
    simp only [cond_false] at hi
    have := h.at_ i u hi
    simp only [Act.put, Array.getElem?_setIfInBounds, if_neg e]
    exact this

def EnvLe (env : Env) : Env → Prop
  | [] => True
  | (k, v) :: r => look env k = some v ∧ EnvLe env r

theorem EnvLe.look {env env' : Env} (h : EnvLe env env') : ∀ i v, X.look env' i = some v → X.look env i = some v := by
  induction env' with
  | nil => intro i v hi; simp [X.look] at hi
  | cons p r ih =>
    obtain ⟨k, u⟩ := p
    obtain ⟨h1, h2⟩ := h
    intro i v hi
    simp only [X.look] at hi
    cases hb : Nat.beq k i with
    | true => rw [hb] at hi; obtain rfl := Nat.eq_of_beq_eq_true hb; simp at hi; subst hi; exact h1
    | false => rw [hb] at hi; exact ih h2 i v hi
theorem Rep.le {n ds env env' a} (h : Rep n ds env a) (hl : EnvLe env env') : Rep n ds env' a :=
  ⟨h.size, h.df, fun i v hi => h.at_ i v (hl.look i v hi)⟩

/-! ### memory -/
abbrev Ent := Option (Nat × Obj)
abbrev Mem := List (Nat × Obj)

structure St (w0 : World) (M : Mem) (H : List Ent) (w : World) : Prop where
  os : w.os = w0.os
  tape : w.tape = w0.tape
  output : w.output = w0.output
  size : w0.heap.size ≤ w.heap.size
  old : ∀ b, b < w0.heap.size → b ∉ M.map Prod.fst → w.heap[b]? = w0.heap[b]?
  mold : ∀ (k : Nat) b o, M[k]? = some (b, o) → b < w0.heap.size ∧ w.heap[b]? = some o
  mnd : ∀ (i j : Nat) b o o', M[i]? = some (b, o) → M[j]? = some (b, o') → i = j
  new : ∀ (k : Nat) b o, H[k]? = some (some (b, o)) → w0.heap.size ≤ b ∧ w.heap[b]? = some o
  nd : ∀ (i j : Nat) b o o', H[i]? = some (some (b, o)) → H[j]? = some (some (b, o')) → i = j

theorem St.refl (w : World) : St w [] [] w :=
  ⟨rfl, rfl, rfl, Nat.le_refl _, fun _ _ _ => rfl, fun k b o h => by simp at h, fun i j b o o' h => by simp at h, fun k b o h => by simp at h, fun i j b o o' h => by simp at h⟩

theorem St.below {w0 H w} (h : St w0 [] H w) : Below w0.heap.size w0 w :=
  ⟨h.os, h.tape, h.output, h.size, fun k hk => h.old k hk (by simp)⟩

theorem St.drew {w0 M H w} (h : St w0 M H w) (n : Nat) : St w0 M H { w with drawn := n } :=
  ⟨h.os, h.tape, h.output, h.size, h.old, h.mold, h.mnd, h.new, h.nd⟩

theorem lt_of_some {w : World} {b : Nat} {o : Obj} (h : w.heap[b]? = some o) : b < w.heap.size := by
  rcases Nat.lt_or_ge b w.heap.size with h' | h'
  · exact h'
  · rw [Array.getElem?_eq_none h'] at h; simp at h

theorem St.alloc {w0 M H w} (h : St w0 M H w) (o : Obj) : St w0 M (H ++ [some (w.heap.size, o)]) { w with heap := w.heap.push o } := by
  have hlt : ∀ b o', w.heap[b]? = some o' → (w.heap.push o)[b]? = some o' := fun b o' hb => by
    have := lt_of_some hb
    rw [Array.getElem?_push, if_neg (by omega)]; exact hb
  refine ⟨h.os, h.tape, h.output, by simp; have := h.size; omega, fun b hb hn => ?_, fun k b o' hk => ?_, h.mnd, fun k b o' hk => ?_, fun i j b o1 o2 hi hj => ?_⟩
  · have := h.size
    show (w.heap.push o)[b]? = _
    rw [Array.getElem?_push, if_neg (by omega)]; exact h.old b hb hn
  · exact ⟨(h.mold k b o' hk).1, hlt _ _ (h.mold k b o' hk).2⟩
  · rw [List.getElem?_append] at hk
    split at hk
    · exact ⟨(h.new k b o' hk).1, hlt _ _ (h.new k b o' hk).2⟩
    · rename_i hlt'
      have : k - H.length = 0 := by
        rcases Nat.eq_zero_or_pos (k - H.length) with h0 | h0
        · exact h0
        · rw [List.getElem?_eq_none (by simp; omega)] at hk; simp at hk
      rw [this] at hk
      simp at hk
      obtain ⟨rfl, rfl⟩ := hk
      exact ⟨h.size, by show (w.heap.push o)[w.heap.size]? = _; simp⟩
  · have key : ∀ k b o', (H ++ [some (w.heap.size, o)])[k]? = some (some (b, o')) → (k < H.length ∧ H[k]? = some (some (b, o')) ∧ b < w.heap.size) ∨ (k = H.length ∧ b = w.heap.size) := by
      intro k b o' hk
      rw [List.getElem?_append] at hk
      split at hk
      · exact .inl ⟨‹_›, hk, lt_of_some (h.new k b o' hk).2⟩
      · right
        have : k - H.length = 0 := by
          rcases Nat.eq_zero_or_pos (k - H.length) with h0 | h0
          · exact h0
          · rw [List.getElem?_eq_none (by simp; omega)] at hk; simp at hk
        rw [this] at hk
        simp at hk
        exact ⟨by omega, hk.1.symm⟩
    rcases key i b o1 hi with ⟨a1, a2, a3⟩ | ⟨a1, a2⟩ <;> rcases key j b o2 hj with ⟨b1, b2, b3⟩ | ⟨b1, b2⟩
    · exact h.nd i j b _ _ a2 b2
    · omega
    · omega
    · omega

/-- a block of the call's own is given new contents -/
theorem St.setH {w0 M H w} (h : St w0 M H w) {k b o} (hk : H[k]? = some (some (b, o))) (o' : Obj) {w' : World}
    (e1 : w'.os = w.os) (e2 : w'.tape = w.tape) (e3 : w'.output = w.output) (e4 : w'.heap.size = w.heap.size) (e5 : w'.heap[b]? = some o') (e6 : ∀ c, c ≠ b → w'.heap[c]? = w.heap[c]?) :
    St w0 M (H.set k (some (b, o'))) w' := by
  have hb := h.new k b o hk
  have hkl : k < H.length := by
    rcases Nat.lt_or_ge k H.length with h' | h'
    · exact h'
    · rw [List.getElem?_eq_none h'] at hk; simp at hk
  have key : ∀ i c q, (H.set k (some (b, o')))[i]? = some (some (c, q)) → (i = k ∧ c = b ∧ q = o') ∨ (i ≠ k ∧ H[i]? = some (some (c, q)) ∧ c ≠ b) := by
    intro i c q hi
    rw [List.getElem?_set] at hi
    by_cases e : k = i
    · subst e
      simp [hkl] at hi
      exact .inl ⟨rfl, hi.1.symm, hi.2.symm⟩
    · rw [if_neg e] at hi
      exact .inr ⟨fun x => e x.symm, hi, fun x => by subst x; exact e (h.nd _ _ _ _ _ hk hi)⟩
  refine ⟨e1.trans h.os, e2.trans h.tape, e3.trans h.output, by rw [e4]; exact h.size, fun c hc hn => ?_, fun i c q hi => ?_, h.mnd, fun i c q hi => ?_, fun i j c q q' hi hj => ?_⟩
  · rw [e6 c (by omega)]; exact h.old c hc hn
  · have := h.mold i c q hi
    refine ⟨this.1, ?_⟩
    rw [e6 c (by omega)]; exact this.2
  · rcases key i c q hi with ⟨rfl, rfl, rfl⟩ | ⟨x, y, z⟩
    · exact ⟨hb.1, e5⟩
    · rw [e6 c z]; exact h.new i c q y
  · rcases key i c q hi with ⟨rfl, rfl, rfl⟩ | ⟨x, y, z⟩ <;> rcases key j c q' hj with ⟨h1, h2, h3⟩ | ⟨x', y', z'⟩
    · exact h1.symm
    · exact absurd rfl z'
    · exact absurd h2 z
    · exact h.nd i j c q q' y y'

/-- an older block that the call may write is given new contents -/
theorem St.setM {w0 M H w} (h : St w0 M H w) {k b o} (hk : M[k]? = some (b, o)) (o' : Obj) {w' : World}
    (e1 : w'.os = w.os) (e2 : w'.tape = w.tape) (e3 : w'.output = w.output) (e4 : w'.heap.size = w.heap.size) (e5 : w'.heap[b]? = some o') (e6 : ∀ c, c ≠ b → w'.heap[c]? = w.heap[c]?) :
    St w0 (M.set k (b, o')) H w' := by
  have hb := h.mold k b o hk
  have hkl : k < M.length := by
    rcases Nat.lt_or_ge k M.length with h' | h'
    · exact h'
    · rw [List.getElem?_eq_none h'] at hk; simp at hk
  have hmem : b ∈ M.map Prod.fst := List.mem_map.2 ⟨(b, o), List.mem_of_getElem? hk, rfl⟩
  have hmap : (M.set k (b, o')).map Prod.fst = M.map Prod.fst := by
    apply List.ext_getElem?
    intro i
    simp only [List.getElem?_map, List.getElem?_set]
    by_cases e : k = i
    · subst e; rw [hk]; simp [hkl]
    · rw [if_neg e]
  have key : ∀ i c q, (M.set k (b, o'))[i]? = some (c, q) → (i = k ∧ c = b ∧ q = o') ∨ (i ≠ k ∧ M[i]? = some (c, q) ∧ c ≠ b) := by
    intro i c q hi
    rw [List.getElem?_set] at hi
    by_cases e : k = i
    · subst e
      simp [hkl] at hi
      exact .inl ⟨rfl, hi.1.symm, hi.2.symm⟩
    · rw [if_neg e] at hi
      exact .inr ⟨fun x => e x.symm, hi, fun x => by subst x; exact e (h.mnd _ _ _ _ _ hk hi)⟩
  refine ⟨e1.trans h.os, e2.trans h.tape, e3.trans h.output, by rw [e4]; exact h.size, fun c hc hn => ?_, fun i c q hi => ?_, fun i j c q q' hi hj => ?_, fun i c q hi => ?_, h.nd⟩
  · rw [hmap] at hn
    rw [e6 c (fun e => hn (e ▸ hmem))]; exact h.old c hc hn
  · rcases key i c q hi with ⟨rfl, rfl, rfl⟩ | ⟨x, y, z⟩
    · exact ⟨hb.1, e5⟩
    · rw [e6 c z]; exact h.mold i c q y
  · rcases key i c q hi with ⟨rfl, rfl, rfl⟩ | ⟨x, y, z⟩ <;> rcases key j c q' hj with ⟨h1, h2, h3⟩ | ⟨x', y', z'⟩
    · exact h1.symm
    · exact absurd rfl z'
    · exact absurd h2 z
    · exact h.mnd i j c q q' y y'
  · have := h.new i c q hi
    refine ⟨this.1, ?_⟩
    rw [e6 c (by omega)]; exact this.2

/-- what is no longer wanted of the call's own blocks is let go -/
theorem St.sub {w0 M H H' w} (h : St w0 M H w) (f : Nat → Nat) (hf : ∀ k b o, H'[k]? = some (some (b, o)) → H[f k]? = some (some (b, o))) (inj : ∀ i j, i < H'.length → j < H'.length → f i = f j → i = j) : St w0 M H' w := by
  refine ⟨h.os, h.tape, h.output, h.size, h.old, h.mold, h.mnd, fun k b o hk => h.new (f k) b o (hf k b o hk), fun i j b o o' hi hj => ?_⟩
  have lt : ∀ (k : Nat) (x : Ent), H'[k]? = some x → k < H'.length := fun k x hk => by
    rcases Nat.lt_or_ge k H'.length with h' | h'
    · exact h'
    · rw [List.getElem?_eq_none h'] at hk; simp at hk
  exact inj i j (lt _ _ hi) (lt _ _ hj) (h.nd _ _ _ _ _ (hf i b o hi) (hf j b o' hj))

theorem sub_map {α : Type} {H' H : List α} (p : H'.Sublist H) : ∃ f : Nat → Nat, (∀ k x, H'[k]? = some x → H[f k]? = some x) ∧ ∀ i j, f i = f j → i = j := by
  induction p with
  | slnil => exact ⟨id, fun k x h => h, fun i j h => h⟩
  | cons a _ ih =>
    obtain ⟨f, h1, h2⟩ := ih
    exact ⟨fun k => f k + 1, fun k x h => by simpa using h1 k x h, fun i j h => h2 i j (by simpa using h)⟩
  | cons_cons a _ ih =>
    obtain ⟨f, h1, h2⟩ := ih
    refine ⟨fun k => match k with | 0 => 0 | k + 1 => f k + 1, fun k x h => ?_, fun i j h => ?_⟩
    · cases k with
      | zero => simpa using h
      | succ k => simpa using h1 k x (by simpa using h)
    · cases i <;> cases j <;> simp at h ⊢
      exact h2 _ _ h

theorem St.perm {w0 M H H' w} (h : St w0 M H w) (p : H'.Sublist H) : St w0 M H' w := by
  obtain ⟨f, h1, h2⟩ := sub_map p
  exact h.sub f (fun k b o hk => h1 k _ hk) (fun i j _ _ e => h2 i j e)
theorem St.drop {w0 M H w} (h : St w0 M H w) : St w0 M [] w := h.perm (List.nil_sublist _)
end Go.Proofs.YtpboahlpgfglkaaDoor.X
