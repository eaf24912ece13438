/-
  Own library, part 1: the judgements and the rules of control.
-/
import Derived.Test.YtpboahlpgfglkaaDoorX0
namespace Go.Proofs.YtpboahlpgfglkaaDoor.X
open Go Go.RowKit
set_option linter.unusedVariables false

structure VL (P : Program) (ops : List Oper) (Q : Exit → Act → World → Prop) (l : List Oper) (n : Nat) (ds : List Deferred) (w0 : World) (env : Env) (M : Mem) (H : List Ent) : Prop where
  go : ∀ a w, Rep n ds env a → St w0 M H w → wpList P ops.toArray Q l a w
structure VC (P : Program) (c : Code) (Q : Exit → Act → World → Prop) (n : Nat) (ds : List Deferred) (w0 : World) (env : Env) (M : Mem) (H : List Ent) : Prop where
  go : ∀ a w, Rep n ds env a → St w0 M H w → c.wp P Q a w
structure VE (Q : Exit → Act → World → Prop) (e : Exit) (n : Nat) (ds : List Deferred) (w0 : World) (env : Env) (M : Mem) (H : List Ent) : Prop where
  go : ∀ a w, Rep n ds env a → St w0 M H w → Q e a w
instance (P : Program) (ops : List Oper) (Q : Exit → Act → World → Prop) (l : List Oper) (n : Nat) (ds : List Deferred) (w0 : World) (env : Env) (M : Mem) (H : List Ent) : CoeFun (VL P ops Q l n ds w0 env M H) (fun _ => ∀ a w, Rep n ds env a → St w0 M H w → wpList P ops.toArray Q l a w) := ⟨VL.go⟩
instance (P : Program) (c : Code) (Q : Exit → Act → World → Prop) (n : Nat) (ds : List Deferred) (w0 : World) (env : Env) (M : Mem) (H : List Ent) : CoeFun (VC P c Q n ds w0 env M H) (fun _ => ∀ a w, Rep n ds env a → St w0 M H w → c.wp P Q a w) := ⟨VC.go⟩
instance (Q : Exit → Act → World → Prop) (e : Exit) (n : Nat) (ds : List Deferred) (w0 : World) (env : Env) (M : Mem) (H : List Ent) : CoeFun (VE Q e n ds w0 env M H) (fun _ => ∀ a w, Rep n ds env a → St w0 M H w → Q e a w) := ⟨VE.go⟩
/-- a contract's end: it returns -/
def Ret (R : Value → World → Prop) (e : Ending) (w' : World) : Prop := ∃ v, e = .returned v ∧ R v w'

section
variable {P : Program} {ops rest : List Oper} {Q : Exit → Act → World → Prop} {n : Nat} {ds : List Deferred} {w0 : World} {env env' : Env} {M : Mem} {H : List Ent} {c x y : Code} {K : Act → World → Prop} {id id' : Nat}

theorem VL_nil (h : VE Q .normal n ds w0 env M H) : VL P ops Q [] n ds w0 env M H := ⟨h.go⟩
theorem VC_region (h : VL P ops Q ops n ds w0 env M H) : VC P (.region id ops.toArray false) Q n ds w0 env M H :=
  ⟨fun a w hr hs => wp_region_list (by simpa using h a w hr hs)⟩
theorem VC_seq (h : VC P x (Exit.then (y.wp P Q) Q) n ds w0 env M H) : VC P (.seq x y) Q n ds w0 env M H :=
  ⟨fun a w hr hs => wp_seq (h a w hr hs)⟩
theorem VC_block (h : VC P c (Exit.inBlock id Q) n ds w0 env M H) : VC P (.block id c) Q n ds w0 env M H :=
  ⟨fun a w hr hs => wp_block (h a w hr hs)⟩
theorem VC_skip (h : VE Q .normal n ds w0 env M H) : VC P .skip Q n ds w0 env M H := ⟨fun a w hr hs => wp_skip (h a w hr hs)⟩
theorem VC_label {l : Nat} (h : VE Q .normal n ds w0 env M H) : VC P (.label l) Q n ds w0 env M H := ⟨fun a w hr hs => wp_label (h a w hr hs)⟩
theorem VC_ret (h : VE Q .ret n ds w0 env M H) : VC P .ret Q n ds w0 env M H := ⟨fun a w hr hs => wp_ret (h a w hr hs)⟩
theorem VC_exit (h : VE Q (.exit id) n ds w0 env M H) : VC P (.exit id) Q n ds w0 env M H := ⟨fun a w hr hs => wp_exit (h a w hr hs)⟩
theorem VC_cond_t {o : Operand} (hc : evo env o = some (.bool true)) (h : VC P x Q n ds w0 env M H) : VC P (.cond o x y) Q n ds w0 env M H :=
  ⟨fun a w hr hs => wp_cond_true (hr.ev hc) (h a w hr hs)⟩
theorem VC_cond_f {o : Operand} (hc : evo env o = some (.bool false)) (h : VC P y Q n ds w0 env M H) : VC P (.cond o x y) Q n ds w0 env M H :=
  ⟨fun a w hr hs => wp_cond_false (hr.ev hc) (h a w hr hs)⟩
theorem VC_cond_b {o : Operand} {b : Bool} (hc : evo env o = some (.bool b)) (ht : b = true → VC P x Q n ds w0 env M H) (hf : b = false → VC P y Q n ds w0 env M H) :
    VC P (.cond o x y) Q n ds w0 env M H := by
  cases b
  · exact VC_cond_f hc (hf rfl)
  · exact VC_cond_t hc (ht rfl)
theorem VC_cond_d {o : Operand} {p : Prop} {inst : Decidable p} (hc : evo env o = some (.bool (decide p))) (ht : p → VC P x Q n ds w0 env M H) (hf : ¬ p → VC P y Q n ds w0 env M H) :
    VC P (.cond o x y) Q n ds w0 env M H :=
  VC_cond_b hc (fun h => ht (of_decide_eq_true h)) (fun h => hf (of_decide_eq_false h))

theorem VC_cond_dt {o : Operand} {p : Prop} {inst : Decidable p} (hc : evo env o = some (.bool (decide p))) (hp : p) (ht : VC P x Q n ds w0 env M H) : VC P (.cond o x y) Q n ds w0 env M H :=
  VC_cond_t (by rw [hc, decide_eq_true hp]) ht
theorem VC_cond_df {o : Operand} {p : Prop} {inst : Decidable p} (hc : evo env o = some (.bool (decide p))) (hp : ¬ p) (hf : VC P y Q n ds w0 env M H) : VC P (.cond o x y) Q n ds w0 env M H :=
  VC_cond_f (by rw [hc, decide_eq_false hp]) hf
theorem VE_then (h : VC P y Q n ds w0 env M H) : VE (Exit.then (y.wp P Q) Q) .normal n ds w0 env M H := ⟨h.go⟩
theorem VE_then_ret (h : VE Q .ret n ds w0 env M H) : VE (Exit.then K Q) .ret n ds w0 env M H := ⟨h.go⟩
theorem VE_then_exit (h : VE Q (.exit id) n ds w0 env M H) : VE (Exit.then K Q) (.exit id) n ds w0 env M H := ⟨h.go⟩
theorem VE_in_normal (h : VE Q .normal n ds w0 env M H) : VE (Exit.inBlock id Q) .normal n ds w0 env M H := ⟨h.go⟩
theorem VE_in_ret (h : VE Q .ret n ds w0 env M H) : VE (Exit.inBlock id Q) .ret n ds w0 env M H := ⟨h.go⟩
theorem VE_in_here (hid : Nat.beq id' id = true) (h : VE Q .normal n ds w0 env M H) : VE (Exit.inBlock id Q) (.exit id') n ds w0 env M H :=
  ⟨fun a w hr hs => by simp only [Exit.inBlock, Nat.eq_of_beq_eq_true hid, if_true]; exact h a w hr hs⟩
theorem VE_in_out (hid : Nat.beq id' id = false) (h : VE Q (.exit id') n ds w0 env M H) : VE (Exit.inBlock id Q) (.exit id') n ds w0 env M H :=
  ⟨fun a w hr hs => by
    have : id' ≠ id := fun e => by subst e; simp at hid
    simp only [Exit.inBlock, if_neg this]; exact h a w hr hs⟩

/-! ### a family of states: what holds at a loop's head, or where ways meet -/
structure Fam (ι : Type) where
  J : ι → Prop
  E : ι → Env
  M : ι → Mem
  H : ι → List Ent
def Fam.at {ι : Type} (F : Fam ι) (n : Nat) (ds : List Deferred) (w0 : World) (μ : ι → Prop) (a : Act) (w : World) : Prop :=
  ∃ i, F.J i ∧ μ i ∧ Rep n ds (F.E i) a ∧ St w0 (F.M i) (F.H i) w

theorem Fam.at_mk {ι : Type} {F : Fam ι} {μ : ι → Prop} (i : ι) (hJ : F.J i) (hμ : μ i) (hE : EnvLe env (F.E i)) (hS : ∀ w, St w0 M H w → St w0 (F.M i) (F.H i) w) :
    ∀ a w, Rep n ds env a → St w0 M H w → F.at n ds w0 μ a w := fun a w hr hs => ⟨i, hJ, hμ, hr.le hE, hS w hs⟩

theorem VE_fam {ι : Type} {F : Fam ι} {μ : ι → Prop} (i : ι) (hJ : F.J i) (hμ : μ i) (hE : EnvLe env (F.E i)) (hS : ∀ w, St w0 M H w → St w0 (F.M i) (F.H i) w) :
    VE (Exit.then (F.at n ds w0 μ) Q) .normal n ds w0 env M H := ⟨Fam.at_mk i hJ hμ hE hS⟩

theorem VC_loop {ι : Type} (F : Fam ι) (m : ι → Nat) (i0 : ι) (hJ : F.J i0) (hE : EnvLe env (F.E i0)) (hS : ∀ w, St w0 M H w → St w0 (F.M i0) (F.H i0) w)
    (round : ∀ i, F.J i → VC P c (Exit.then (F.at n ds w0 fun j => m j < m i) Q) n ds w0 (F.E i) (F.M i) (F.H i)) : VC P (.loop c) Q n ds w0 env M H := by
  refine ⟨fun a w hr hs b k cs => ?_⟩
  have key : ∀ N i, m i = N → F.J i → ∀ a w, Rep n ds (F.E i) a → St w0 (F.M i) (F.H i) w →
      ∃ e a' w', Q e a' w' ∧ Arrives P (lone (b.at a (.code c :: .inLoop c :: k)) cs w) b k cs e a' w' := by
    intro N
    induction N using Nat.strongRecOn with
    | _ N ih =>
      intro i hN hi a w hr hs
      obtain ⟨e, a₁, w₁, hq, harr⟩ := round i hi a w hr hs b (.inLoop c :: k) cs
      cases e with
      | normal =>
        obtain ⟨j, hj, hlt, hr₁, hs₁⟩ := hq
        obtain ⟨e₂, a₂, w₂, hq₂, harr₂⟩ := ih (m j) (hN ▸ hlt) j rfl hj a₁ w₁ hr₁ hs₁
        exact ⟨e₂, a₂, w₂, hq₂, .of_steps (Steps.trans harr (.one step_inLoop)) harr₂⟩
      | exit id => exact ⟨_, a₁, w₁, hq, .pass (x := .inLoop c) rfl (fun _ _ => .inl (by simp)) harr⟩
      | goto l => exact ⟨_, a₁, w₁, hq, .pass (x := .inLoop c) rfl (fun _ _ => .inl (by simp)) harr⟩
      | ret => exact ⟨_, a₁, w₁, hq, .pass (x := .inLoop c) rfl (fun _ _ => .inl (by simp)) harr⟩
      | panic ch => exact ⟨_, a₁, w₁, hq, .pass (x := .inLoop c) rfl (fun _ _ => .inl (by simp)) harr⟩
      | outgrown => exact ⟨_, a₁, w₁, hq, .pass (x := .inLoop c) rfl (fun _ _ => .inl (by simp)) harr⟩
  obtain ⟨e, a', w', hq, harr⟩ := key _ i0 rfl hJ a w (hr.le hE) (hS w hs)
  exact ⟨e, a', w', hq, .of_steps (.one step_loop) harr⟩

/-- ways meet behind x -/
theorem VC_seq_cut {ι : Type} (F : Fam ι) (h : VC P x (Exit.then (F.at n ds w0 fun _ => True) Q) n ds w0 env M H) (hy : ∀ i, F.J i → VC P y Q n ds w0 (F.E i) (F.M i) (F.H i)) :
    VC P (.seq x y) Q n ds w0 env M H := by
  refine ⟨fun a w hr hs => ?_⟩
  refine wp_seq (wp_mono (h a w hr hs) ?_)
  intro e a' w' hq
  cases e with
  | normal => obtain ⟨i, q1, -, q3, q4⟩ := hq; exact hy i q1 a' w' q3 q4
  | _ => exact hq

/-- what is known of slots that are no longer wanted is let go; a fact is said otherwise -/
theorem VC_weak {env' : Env} (hE : EnvLe env env') (h : VC P c Q n ds w0 env' M H) : VC P c Q n ds w0 env M H := ⟨fun a w hr hs => h a w (hr.le hE) hs⟩
theorem VL_weak {l : List Oper} {env' : Env} (hE : EnvLe env env') (h : VL P ops Q l n ds w0 env' M H) : VL P ops Q l n ds w0 env M H := ⟨fun a w hr hs => h a w (hr.le hE) hs⟩
theorem VE_weak {e : Exit} {env' : Env} (hE : EnvLe env env') (h : VE Q e n ds w0 env' M H) : VE Q e n ds w0 env M H := ⟨fun a w hr hs => h a w (hr.le hE) hs⟩

/-! ### a function -/
def argEnv : Nat → List Value → Env
  | _, [] => []
  | k, v :: r => (k, v) :: argEnv (k + 1) r

theorem argEnv_look : ∀ (l : List Value) (k i : Nat) (v : Value), look (argEnv k l) i = some v → k ≤ i ∧ l[i - k]? = some v := by
  intro l
  induction l with
  | nil => intro k i v h; simp [argEnv, look] at h
  | cons u l ih =>
    intro k i v h
    simp only [argEnv, look] at h
    cases hb : Nat.beq k i with
    | true => rw [hb] at h; obtain rfl := Nat.eq_of_beq_eq_true hb; simp at h; subst h; simp
    | false =>
      rw [hb] at h
      have hne : k ≠ i := fun e => by subst e; simp at hb
      obtain ⟨h1, h2⟩ := ih (k + 1) i v h
      refine ⟨by omega, ?_⟩
      obtain ⟨j, hj⟩ : ∃ j, i - k = j + 1 := ⟨i - k - 1, by omega⟩
      rw [hj]
      have : i - (k + 1) = j := by omega
      rw [this] at h2
      simpa using h2

theorem enterM {f : FuncId} {fn : Func} {args : List Value} {R : Ending → World → Prop} {w : World} (hf : P.funcs[f]? = some fn) (hb : fn.body = some c) (hn : fn.ntmps = n)
    (hs : Nat.ble args.length n = true) (hM : St w M [] w) (h : VC P c (bodyPost P fn R) n [] w (argEnv 0 args) M []) : Calls P f args.toArray w R := by
  refine calls_of_wp hf hb (h _ w ⟨?_, rfl, ?_⟩ hM)
  · have : args.length ≤ n := Nat.le_of_ble_eq_true hs
    simp [hn]; omega
  · intro i v hi
    obtain ⟨-, h2⟩ := argEnv_look _ _ _ _ hi
    simp only [Nat.sub_zero] at h2
    have hlt : i < args.length := by
      rcases Nat.lt_or_ge i args.length with h' | h'
      · exact h'
      · rw [List.getElem?_eq_none h'] at h2; simp at h2
    rw [Array.getElem?_append_left (by simpa using hlt)]
    simpa using h2
theorem enter {f : FuncId} {fn : Func} {args : List Value} {R : Ending → World → Prop} {w : World} (hf : P.funcs[f]? = some fn) (hb : fn.body = some c) (hn : fn.ntmps = n)
    (hs : Nat.ble args.length n = true) (h : VC P c (bodyPost P fn R) n [] w (argEnv 0 args) [] []) : Calls P f args.toArray w R :=
  enterM hf hb hn hs (St.refl w) h

theorem VE_ret1 {fn : Func} {R : Ending → World → Prop} {t : Nat} {v : Value} (hr : fn.results = #[.tmp t]) (hv : look env t = some v) (h : ∀ w, St w0 M H w → R (.returned v) w) :
    VE (bodyPost P fn R) .ret n [] w0 env M H := ⟨fun a w hra hs => ⟨hra.df, v, by
      have := hra.at_ t v hv
      simp [results, hr, this], h w hs⟩⟩
theorem VE_ret2 {fn : Func} {R : Ending → World → Prop} {t u : Nat} {v v' : Value} (hr : fn.results = #[.tmp t, .tmp u]) (hv : look env t = some v) (hv' : look env u = some v') (h : ∀ w, St w0 M H w → R (.returned (.tuple #[v, v'])) w) :
    VE (bodyPost P fn R) .ret n [] w0 env M H := ⟨fun a w hra hs => ⟨hra.df, .tuple #[v, v'], by
      have := hra.at_ t v hv
      have := hra.at_ u v' hv'
      simp [results, *], h w hs⟩⟩
theorem VE_ret3 {fn : Func} {R : Ending → World → Prop} {t u s : Nat} {v v' v'' : Value} (hr : fn.results = #[.tmp t, .tmp u, .tmp s]) (hv : look env t = some v) (hv' : look env u = some v') (hv'' : look env s = some v'') (h : ∀ w, St w0 M H w → R (.returned (.tuple #[v, v', v''])) w) :
    VE (bodyPost P fn R) .ret n [] w0 env M H := ⟨fun a w hra hs => ⟨hra.df, .tuple #[v, v', v''], by
      have := hra.at_ t v hv
      have := hra.at_ u v' hv'
      have := hra.at_ s v'' hv''
      simp [results, *], h w hs⟩⟩
theorem VE_ret0 {fn : Func} {R : Ending → World → Prop} (hr : fn.results = #[]) (h : ∀ w, St w0 M H w → R (.returned (.tuple #[])) w) :
    VE (bodyPost P fn R) .ret n [] w0 env M H := ⟨fun a w hra hs => ⟨hra.df, .tuple #[], by simp [results, hr], h w hs⟩⟩
theorem VE_end0 {fn : Func} {R : Ending → World → Prop} (hr : fn.results = #[]) (h : ∀ w, St w0 M H w → R (.returned (.tuple #[])) w) :
    VE (bodyPost P fn R) .normal n [] w0 env M H := ⟨fun a w hra hs => ⟨hra.df, .tuple #[], by simp [results, hr], h w hs⟩⟩
end
end Go.Proofs.YtpboahlpgfglkaaDoor.X
