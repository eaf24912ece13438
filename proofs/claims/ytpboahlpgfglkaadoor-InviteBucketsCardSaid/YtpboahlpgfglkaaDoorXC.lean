/-
  Own library: a config among the arguments; the handle of the type 'error' that a row lists.
-/
import Derived.Test.YtpboahlpgfglkaaDoorF4
import Derived.Test.YtpboahlpgfglkaaDoorRows
import Derived.Test.YtpboahlpgfglkaaDoorXR
import Derived.ChangeSame
import Derived.ChangeVars
import Derived.LaidLaws
import Derived.LaidHandle
import Derived.Stop.Joined
import Derived.WalkKit
import Derived.ProofKit
namespace Go.Proofs.YtpboahlpgfglkaaDoor.X
open Go Go.RowKit Go.ChangeShapes Go.WideShapes
set_option linter.unusedVariables false
set_option maxRecDepth 100000

theorem six {cs : Array Value} (h : cs.size = 6) {a b c d e f : Value} (h0 : cs[0]? = some a) (h1 : cs[1]? = some b) (h2 : cs[2]? = some c) (h3 : cs[3]? = some d) (h4 : cs[4]? = some e) (h5 : cs[5]? = some f) : cs = #[a, b, c, d, e, f] := by
  obtain ⟨l⟩ := cs
  rcases l with _ | ⟨x0, _ | ⟨x1, _ | ⟨x2, _ | ⟨x3, _ | ⟨x4, _ | ⟨x5, _ | ⟨x6, l⟩⟩⟩⟩⟩⟩⟩ <;> simp_all
theorem wf_i64 {n : Int} (h : (Lit.int .i64 n).wf = true) : -9223372036854775808 ≤ n ∧ n ≤ 9223372036854775807 := by simpa [Lit.wf, IntKind.min, IntKind.max, IntKind.signed, IntKind.bits] using h

theorem open_cfg {H : Type} {enc : TypeId × Value → H} {W : World} {base b0 : Nat} {r : Reach} {spare : Nat → Bool} {held : Bool} {v : Value} {d : DataW H} {ps : List MemPlace}
    (hval : Value.okWide Tryd.prog W r b0 29 v) (h : DataW.Trod enc Tryd.prog W base spare held 29 v d ps) :
    ∃ c : Cfg, v = c.val ∧ -9223372036854775808 ≤ c.message ∧ c.message ≤ 9223372036854775807 := by
  obtain ⟨cs, rfl, hsz⟩ := okWide_struct Tryd.underlying29 hval
  have h6 : Tryd.prog.cellsOf 29 = 6 := by kernel_rfl
  have h1 : Tryd.prog.cellsOf 3 = 1 := by kernel_rfl
  rw [h6] at hsz
  obtain ⟨fuel, hf⟩ := h
  obtain ⟨xs, n, _, hx, hl, hlen, hfs⟩ := DataW.trod_struct Tryd.underlying29 hf
  have key : ∀ (i : Nat) (f : Field), i < 6 → (Tryd.prog.fieldsOf 29)[i]? = some f → f.type = 3 → f.offset = i → ∃ z, cs[i]? = some (.int .i64 z) ∧ (Lit.int .i64 z).wf = true := by
    intro i f hi hfi ht ho
    have q := hfs i f hfi
    have hx6 : xs.length = 6 := by rw [hlen]; rfl
    rw [List.getElem?_eq_getElem (by omega), ht, ho, h1] at q
    obtain ⟨z, hz, -, hw⟩ := DataW.trod_int Tryd.underlying3 q
    refine ⟨z, ?_, hw⟩
    have e1 : (cs.toList.drop i).take 1 = [.int .i64 z] := by simpa [Value.cells] using hz
    have e2 : ((cs.toList.drop i).take 1)[0]? = some (.int .i64 z) := by rw [e1]; rfl
    simpa using e2
  obtain ⟨a, ha, wa⟩ := key 0 _ (by omega) rfl rfl rfl
  obtain ⟨b, hb, wb⟩ := key 1 _ (by omega) rfl rfl rfl
  obtain ⟨c, hc, wc⟩ := key 2 _ (by omega) rfl rfl rfl
  obtain ⟨d', hd, wd⟩ := key 3 _ (by omega) rfl rfl rfl
  obtain ⟨e, he, we⟩ := key 4 _ (by omega) rfl rfl rfl
  obtain ⟨f, hf', wf⟩ := key 5 _ (by omega) rfl rfl rfl
  rw [six hsz ha hb hc hd he hf']
  have := wf_i64 wb
  exact ⟨⟨a, b, c, d', e, f⟩, rfl, this.1, this.2⟩

theorem rt : (Tryd.prog.cutTypes.find? (·.1 == "internal/reflectlite.rtype")).map (·.2) = some 156 := by kernel_rfl
/-- a world that meets the listed handle -/
noncomputable def laidWorld (os : Os) : World :=
  let w0 := World.holding Tryd.prog os ⟨#[], #[], []⟩
  { w0 with heap := w0.heap.modify 0 fun
      | .cells _ t frozen => .cells #[.iface 156 (.agg #[.pointer (some ⟨Tryd.prog.globals.size, 110, none⟩)])] t frozen
      | o => o }
theorem laidWorld_met (os : Os) (args : Array Value) : laidMetH Tryd.prog [("errors.errorType", Rows.laid_errors_errorType)] ((laidWorld os).forCall (fun _ _ => 0) ⟨#[], args, []⟩).memory :=
  laidMetH_of_parts (laidMet_nil _ _) (by kernel_rfl)
end Go.Proofs.YtpboahlpgfglkaaDoor.X
