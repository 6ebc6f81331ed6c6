/- Proved: the law LateShift of ringerlaw16 returns true on every input, and leaves its argument as it was. Conditions: none beyond the given row's own. -/
import Derived.Test.YtaepkmjlkenenaaL9
import Derived.Test.YtaepkmjlkenenaaL10
import Derived.Test.YtaepkmjlkenenaaOp
import Derived.Test.YtaepkmjlkenenaaRows
import Derived.WalkKit
import Derived.ProofKit
import Derived.OpenShut
import Derived.ShutString
import Derived.ChangeOld
import Derived.Below
namespace Go.Proofs.Ytaepkmjlkenenaa.lateShift
open Go.ChangeShapes Go.WideShapes Go.ChangeAt Go.RowKit
set_option linter.unusedVariables false

theorem own : ownKnob Try.prog.godebug = none := by kernel_rfl
theorem laidOut : laidOutB Try.prog = true := by kernel_rfl

theorem walk (l : Lt.Lot) (d g r : Int) (vd vc : Value) (w : World) (hD : Ints w vd l.due) (hC : Ints w vc l.come) (hri : (Lit.int .i64 r).wf = true) :
    Calls Try.prog 4 #[lotV l vd vc, .int .i64 d, .int .i64 g, .int .i64 r] w fun e w' => e = .returned (.bool true) ∧ Below w.heap.size w w' := by
  by_cases h : 70 < l.due.length ∨ 70 < l.come.length ∨ Lt.may l = false
  · exact shift_great l d g r vd vc w hD hC h
  have hm : Lt.may l = true := by
    cases hm : Lt.may l with
    | true => rfl
    | false => exact absurd (.inr (.inr hm)) h
  by_cases h2 : d < 0 ∨ 4294967296 < d ∨ 13569465600 ≤ l.now + d ∨ g < 0 ∨ 4294967296 < g ∨ 4294967296 < l.grace ∨ r < 0 ∨ 64 < IntKind.i64.wrap (l.room + r) ∨ 64 < r
  · exact shift_out l d g r vd vc w hD hC hm h2
  obtain ⟨hl, -⟩ := (Lt.may_iff l).1 hm
  have hw : 0 ≤ r → r ≤ 64 → IntKind.i64.wrap (l.room + r) = l.room + r := fun _ _ => wrap_small _ (by omega) (by omega)
  refine shift_main l d g r vd vc w hD hC hm (by omega) (by omega) (by omega) (by omega) (by omega) (by omega) (by omega) ?_ (by omega)
  have := hw (by omega) (by omega)
  rw [← this]
  omega

set_option maxRecDepth 100000 in
theorem lifted (os : Os) (started : os.Started) (H : Type) (enc : TypeId × Value → H) :
    ReturnsInHanded {} Try.checked os 4 .any (Rows.lateShiftSpec.pre6 enc Try.prog Try.f4 Rows.lateShiftRow.domain false) (Rows.lateShiftSpec.post enc Try.prog Try.f4 false true false false) := by
  refine returnsInHanded_of_change (C := Try.checked) own started (by kernel_rfl) Try.func4
    (ChangeSpec.witness6 (enc := enc) (C := Try.checked) false ⟨#[], #[.agg #[.int .i64 0, .int .i64 0, .int .i64 0, .slice none 0 0, .slice none 0 0, .int .i64 0], .int .i64 0, .int .i64 0, .int .i64 0], []⟩ 8 (by kernel_rfl) (by kernel_rfl) (by kernel_rfl) (by kernel_rfl)) ?_
  intro W base args ds gs before hval0 hW hcnd _
  have hval : ∀ (j : Nat) t v, Try.f4.params[j]? = some t → args[j]? = some v → Value.okWide Try.prog W .any base t v := hval0
  have hW' := hW
  obtain ⟨p, q, hA0, hV, rfl, hfz, hnd⟩ := hW
  have hA : DataW.TrodAll enc Try.prog W 0 (fun _ => true) true Try.f4.params.toList args.toList ds p := hA0
  rw [Try.params4] at hA hval
  obtain ⟨v0, vs0, d0, ds0, p0, q0, hargs, rfl, rfl, h0, r0⟩ := trodAll_cons hA
  obtain ⟨v1, vs1, d1, ds1, p1, q1, rfl, rfl, rfl, h1, r1⟩ := trodAll_cons r0
  obtain ⟨v2, vs2, d2, ds2, p2, q2, rfl, rfl, rfl, h2, r2⟩ := trodAll_cons r1
  obtain ⟨v3, vs3, d3, ds3, p3, q3, rfl, rfl, rfl, h3, r3⟩ := trodAll_cons r2
  obtain ⟨rfl, rfl, rfl⟩ := trodAll_nil r3
  obtain rfl : args = #[v0, v1, v2, v3] := by cases args; simp_all
  obtain ⟨rfl, rfl⟩ := trodVars_none hV
  have k0 := h0
  have k1 := h1
  have k2 := h2
  have k3 := h3
  have lt0 : ∀ x ∈ p0, x.block < W.heap.size := by obtain ⟨m, hm⟩ := k0; exact DataW.trod_lt m _ _ _ hm
  have lt1 : ∀ x ∈ p1, x.block < W.heap.size := by obtain ⟨m, hm⟩ := k1; exact DataW.trod_lt m _ _ _ hm
  have lt2 : ∀ x ∈ p2, x.block < W.heap.size := by obtain ⟨m, hm⟩ := k2; exact DataW.trod_lt m _ _ _ hm
  have lt3 : ∀ x ∈ p3, x.block < W.heap.size := by obtain ⟨m, hm⟩ := k3; exact DataW.trod_lt m _ _ _ hm
  obtain ⟨l, vd, vc, rfl, hD, hC, -⟩ := open_lot (hval 0 24 v0 rfl rfl) h0
  obtain ⟨n1, rfl, -, -, -⟩ := open_int Try.underlying2 (hval 1 2 v1 rfl rfl) h1
  obtain ⟨n2, rfl, -, -, -⟩ := open_int Try.underlying2 (hval 2 2 v2 rfl rfl) h2
  obtain ⟨n3, rfl, -, -, w3⟩ := open_int Try.underlying3 (hval 3 3 v3 rfl rfl) h3
  clear hA0 hval0
  refine (walk l n1 n2 n3 vd vc W hD hC w3).mono fun e W' ⟨he, bel⟩ => ?_
  subst he
  have S0 := Below.trod laidOut (by kernel_rfl) (of_decide_eq_true (by kernel_rfl)) k0 bel lt0
  have S1 := Below.trod laidOut (by kernel_rfl) (of_decide_eq_true (by kernel_rfl)) k1 bel lt1
  have S2 := Below.trod laidOut (by kernel_rfl) (of_decide_eq_true (by kernel_rfl)) k2 bel lt2
  have S3 := Below.trod laidOut (by kernel_rfl) (of_decide_eq_true (by kernel_rfl)) k3 bel lt3
  exact ⟨_, rfl, _, _, _, [], _, [], hW', trodAll_mk1 (shut_bool Try.underlying4 _), trodAll_cons_mk S0 (trodAll_cons_mk S1 (trodAll_cons_mk S2 (trodAll_cons_mk S3 trodAll_mk0))), rfl, bel.frame _, fun h => by cases h⟩

theorem over : Rows.lateShiftRow.holds Try.pinned (OpenSpec.ofChange Rows.lateShiftSpec) :=
  OpenClaim.holds_of_wide 4 Try.f4 rfl rfl rfl rfl rfl rfl rfl ⟨rfl, rfl, rfl, rfl, rfl⟩ rfl rfl rfl rfl rfl (by kernel_rfl) Try.func4 (by kernel_rfl)
    (of_decide_eq_true (by kernel_rfl)) (by unfold Func.isWrapper; first | (rw [if_pos (by decide +kernel)]; kernel_rfl) | (rw [if_neg (by decide +kernel)]; exact ⟨rfl, rfl⟩))
    (fun os started H enc _ => lifted os started H enc)

/-- ████ THE STATEMENT ████ -/
theorem proved : Rows.LateShiftSaid := over
#print axioms proved
end Go.Proofs.Ytaepkmjlkenenaa.lateShift
