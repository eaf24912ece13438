/-
  Own library, part 12: a call walked in the caller's memory; lists grown in two ways.
-/
import Derived.Test.YtpboahlpgfglkaaDoorX11
namespace Go.Proofs.YtpboahlpgfglkaaDoor.X
open Go Go.RowKit
set_option linter.unusedVariables false
set_option linter.unusedSimpArgs false

theorem enterH {P : Program} {c : Code} {n : Nat} {f : FuncId} {fn : Func} {args : List Value} {R : Ending → World → Prop} {w0 w : World} {M : Mem} {H : List Ent} (hf : P.funcs[f]? = some fn) (hb : fn.body = some c) (hn : fn.ntmps = n)
    (hs : Nat.ble args.length n = true) (hM : St w0 M H w) (h : VC P c (bodyPost P fn R) n [] w0 (argEnv 0 args) M H) : Calls P f args.toArray w R := by
  refine calls_of_wp hf hb (h _ w ⟨?_, rfl, ?_⟩ hM)
  · have : args.length ≤ n := Nat.le_of_ble_eq_true hs
    simp [hn]; omega
  · intro i v hi
    obtain ⟨-, h2⟩ := argEnv_look _ _ _ _ hi
    simp only [Nat.sub_zero] at h2
    have hlt : i < args.length := by
      rcases Nat.lt_or_ge i args.length with h' | h'
      · exact h'
      · rw [List.getElem?_eq_none h'] at h2; simp at h2
    rw [Array.getElem?_append_left (by simpa using hlt)]
    simpa using h2

/-- grown: in its own place, or as a block behind, the old one kept -/
theorem append_run2 {P : Program} {w0 w : World} {M : Mem} {H : List Ent} {t tx e : Nat} {z ze : Value} {sz by_ bye c p : Nat} {de : TypeDesc} {vs news : List Value} {ent : Ent} {A : Option Addr} {v : Value} [hT : TI P t (.slice e) z sz by_] [hE : TI P e de ze 1 bye]
    (hz : ze.cells = #[ze]) (hs : St w0 M H w) (hp : H[p]? = some ent) (ho : OwnSl ent A c e vs) (h1 : vs.all (·.oneCell') = true) (src : Src P 1 tx v news.length news w) (hne : 0 < news.length)
    (hb : (vs.length + news.length) * bye ≤ 140737488355328) (hbye : 0 < bye) (tyy : Nat) :
    (∃ ent' w', (Builtin.append_ #[t, tx] tyy #[.slice A vs.length c, v]).run P w = .ok (.slice A (vs.length + news.length) c) w' ∧ OwnSl ent' A c e (vs ++ news) ∧ St w0 M (H.set p ent') w') ∨
    (∃ ent' A' c' w', (Builtin.append_ #[t, tx] tyy #[.slice A vs.length c, v]).run P w = .ok (.slice A' (vs.length + news.length) c') w' ∧ OwnSl ent' A' c' e (vs ++ news) ∧ St w0 M (H ++ [ent']) w') := by
  obtain ⟨i, i1, i2, i3, i4⟩ := hE.get
  have hle := ho.le
  have h63 : vs.length + news.length ≤ 140737488355328 := Nat.le_trans (Nat.le_mul_of_pos_right _ hbye) hb
  by_cases hroom : vs.length + news.length ≤ c
  · left
    rcases ho with ⟨rfl, rfl, rfl, rfl⟩ | ⟨b, junk, fr, rfl, rfl, hcap, hf⟩
    · simp at hroom; simp [hroom] at hne
    · have hg := (hs.new p b _ hp).2
      have hlen : (vs ++ junk).length = vs.length + junk.length := by simp
      obtain ⟨w', r, u⟩ := run_storeCells (P := P) (o := 0 + vs.length * 1) news 0 (vs ++ junk) w hg (by simp; omega) (by rw [hlen, ← hcap]; exact hf) src.one
      refine ⟨Blk b (vs ++ news ++ junk.drop news.length) e fr, w', ?_, .inr ⟨b, junk.drop news.length, fr, rfl, rfl, by simp; omega, hf⟩, ?_⟩
      · rcases src.kind with ⟨e', hk⟩ | hk <;> simp [Builtin.append_, run_underlying hT.und, run_underlying hk, sizeOf, typeInfo, i1, src.len, hroom, i3, src.cells, add_norm] <;> simp at r <;> simp [r]
      · have e1 : splice (vs ++ junk) (0 + vs.length * 1 + 0) news = vs ++ news ++ junk.drop news.length := by
          simp only [splice, Nat.zero_add, Nat.mul_one, Nat.add_zero, List.take_left', List.append_assoc]
          rw [List.drop_append, List.drop_eq_nil_of_le (by omega)]
          simp
        rw [e1] at u
        exact hs.updH hp u
  · right
    have hold : (Builtin.firstCells i.size vs.length (.slice A vs.length c)).run P w.drew = .ok vs.toArray w.drew := by
      rw [i3]
      rcases (show Rd w A vs from hs.rdO hp ho) with rfl | ⟨b, off, rfl, hat⟩
      · cases A with
        | none => exact run_firstCells_none w.drew 1 0 0 c
        | some a => exact run_firstCells_some w.drew 1 0 a 0 c [] (by simp) (fun j u hj => by simp at hj)
      · exact run_firstCells_some w.drew 1 vs.length ⟨b, off, none⟩ vs.length c vs (by simp) (fun j u hj => by rw [add_norm]; exact hat j u hj)
    have src' : Src P i.size tx v news.length news w := by rw [i3]; exact src
    have r := run_append_grow_src (P := P) w t tx tyy e i ze hT.und i1 i2 A vs.length c vs hold v news.length news src' (by omega) (by omega) (growslice_fits (by omega) (by rw [i4]; exact hb))
    rw [hz, zeroCells_one] at r
    have hcap : vs.length + news.length ≤ grownCap w (vs.length + news.length) c e := by
      unfold grownCap Question.cut; simp
    refine ⟨_, _, _, _, r, .inr ⟨w.heap.size, List.replicate (grownCap w (vs.length + news.length) c e - (vs.length + news.length)) ze, (0, 0), rfl, rfl, by simp; omega, NF.zero _⟩, ?_⟩
    have s1 := ((hs.drew (w.drawn + 1)).alloc (.cells (vs ++ news ++ List.replicate (grownCap w (vs.length + news.length) c e - (vs.length + news.length)) ze).toArray e))
    have e2 : (vs ++ news ++ List.replicate (grownCap w (vs.length + news.length) c e - (vs.length + news.length)) ze).toArray = (vs ++ news).toArray ++ (List.replicate (grownCap w (vs.length + news.length) c e - (vs.length + news.length)) ze).toArray := by simp
    rw [e2] at s1
    show St w0 M (H ++ [some (w.heap.size, .cells (vs ++ news ++ List.replicate (grownCap w (vs.length + news.length) c e - (vs.length + news.length)) ze).toArray e (0, 0))]) _
    rw [e2]
    exact s1
section
variable {P : Program} {ops rest : List Oper} {Q : Exit → Act → World → Prop} {n : Nat} {ds : List Deferred} {w0 : World} {env env' : Env} {M M' : Mem} {H H' : List Ent}
  {d ty : Nat} {pos : String} {aft : Array Edge} {g : Option (Nat × Bool)} {x y : Operand}
theorem VL_append2 {t tx e e2 : Nat} {z ze z2 : Value} {sz by_ bye sz2 by2 c c2 p m l r : Nat} {de : TypeDesc} {vs news : List Value} {ent : Ent} {A A2 : Option Addr} [hT : TI P t (.slice e) z sz by_] [hE : TI P e de ze 1 bye] [hT2 : TI P tx (.slice e2) z2 sz2 by2] (hw : Wanted ops env g)
    (hx : evo env x = some (.slice A l c)) (hy : evo env y = some (.slice A2 m c2)) (hz : ze.cells = #[ze]) (hp : H[p]? = some ent) (ho : OwnSl ent A c e vs) (hlv : l = vs.length) (h1 : vs.all (·.oneCell') = true)
    (hm : m = news.length) (hne : 0 < news.length) (hrd : ∀ w, St w0 M H w → Rd w A2 news) (h2 : news.all (·.oneCell') = true)
    (hbp : Nat.beq bye 0 = false) (hlr : vs.length + news.length = r) (hb : r * bye ≤ 140737488355328) (hl : Nat.blt d n = true)
    (h : ∀ ent', OwnSl ent' A c e (vs ++ news) → VL P ops Q rest n ds w0 ((d, .slice A r c) :: env) M (H.set p ent'))
    (h' : ∀ ent' A' c', OwnSl ent' A' c' e (vs ++ news) → VL P ops Q rest n ds w0 ((d, .slice A' r c') :: env) M (H ++ [ent'])) :
    VL P ops Q (⟨some d, .call { callee := .builtin .append, args := #[x, y], argTypes := #[t, tx] }, ty, pos, aft, g⟩ :: rest) n ds w0 env M H := by
  subst hm hlv hlr
  refine VL_w (ι := Bool × Ent × Option Addr × Nat) (J := fun i => OwnSl i.2.1 i.2.2.1 i.2.2.2 e (vs ++ news) ∧ (i.1 = true → i.2.2.1 = A ∧ i.2.2.2 = c)) (V := fun i => .slice i.2.2.1 (vs.length + news.length) i.2.2.2) (M' := fun _ => M) (H' := fun i => if i.1 = true then H.set p i.2.1 else H ++ [i.2.1]) hw hl ?_ ?_
  · intro a w hr hs
    rcases append_run2 (P := P) (t := t) (tx := tx) hz hs hp ho h1 (rd_first (P := P) (c := c2) (hrd w hs) hT2.und h2) hne hb (Nat.pos_of_ne_zero fun e => by subst e; simp at hbp) ty with ⟨ent', w', r, o', s'⟩ | ⟨ent', A', c', w', r, o', s'⟩
    · exact ⟨(true, ent', A, c), w', by simp [execOp, resolve, invoke, builtin, hr.ev hx, hr.ev hy, r], ⟨o', fun _ => ⟨rfl, rfl⟩⟩, by simpa using s'⟩
    · exact ⟨(false, ent', A', c'), w', by simp [execOp, resolve, invoke, builtin, hr.ev hx, hr.ev hy, r], ⟨o', fun h => by simp at h⟩, by simpa using s'⟩
  · rintro ⟨b, ent', A', c'⟩ ⟨o', hb'⟩
    cases b
    · exact h' _ _ _ o'
    · obtain ⟨rfl, rfl⟩ := hb' rfl
      exact h _ o'
end
end Go.Proofs.YtpboahlpgfglkaaDoor.X
