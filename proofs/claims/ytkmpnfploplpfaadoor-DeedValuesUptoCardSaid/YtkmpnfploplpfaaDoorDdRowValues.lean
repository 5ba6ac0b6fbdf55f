/- DeedValues holds wherever what it reads is of bulk at most 1048576: every value that has a text is what that text is read as, and vice versa; the tied card of the second form. No other conditions. -/
import Derived.Test.YtkmpnfploplpfaaDoorDdValues
import Derived.Test.YtkmpnfploplpfaaDoorDdRowBase
import Derived.Test.YtkmpnfploplpfaaDoorDdFactsValues
set_option linter.unusedVariables false
set_option linter.unusedSimpArgs false
namespace Go.Proofs.YtkmpnfploplpfaaDoor
open Go.ChangeShapes Go.WideShapes Go.ChangeAt Go.RowKit Go.Deed Go.ChangeMaps
set_option maxRecDepth 100000
abbrev arg5 : Value := .agg #[.int .i64 0, .int .i64 0, .string ⟨#[]⟩, .slice none 0 0]
theorem reads5 (os : Os) {H : Type} (enc : TypeId × Value → H) : ∃ places, DataW.whole enc Tryd.prog ((World.laidAll Tryd.prog os laid5).forCall (fun _ _ => 0) ⟨#[], #[arg5, .string ⟨#[]⟩], []⟩).memory Tryd.f5.params.toList Rows.deedValuesSpec.vars false #[arg5, .string ⟨#[]⟩].toList 8 = some ([.agg [.lit (.int .i64 0), .lit (.int .i64 0), .lit (.string []), .nil], .lit (.string [])], [], places) :=
  ⟨[], by kernel_rfl⟩
theorem liftedValues (os : Os) (started : os.Started) (H : Type) (enc : TypeId × Value → H) (F : Stop.Interp) :
    ReturnsInHanded {} Tryd.checked os 5 .any ((Rows.OpenSpec.upto Rows.deedValuesSpec).preRow enc Tryd.prog Tryd.f5 Rows.deedValuesUptoRow.domain false Rows.deedValuesUptoRow.laid) (((Rows.OpenSpec.upto Rows.deedValuesSpec).at F).post enc Tryd.prog Tryd.f5 false true false false) := by
  obtain ⟨places, hx⟩ := reads5 os enc
  refine returnsInHanded_of_row (C := Tryd.checked) (s := Rows.OpenSpec.upto Rows.deedValuesSpec) own started (by kernel_rfl) Tryd.func5
    (fits (enc := enc) (C := Tryd.checked) false (World.laidAll Tryd.prog os laid5) #[arg5, .string ⟨#[]⟩] rfl (World.shaped_of_ZipB (by kernel_rfl) (by kernel_rfl)) (by kernel_rfl)
      (OpenSpec.preRow_of_cond 8 hx (by kernel_rfl) (fun k hk => by cases hk; kernel_rfl) (by kernel_rfl) (by rw [MakeChecks.laidMetH_plain _ _ _ (by kernel_rfl)]; exact laidMet_laidAll _ (by kernel_rfl) (by kernel_rfl)))) ?_
  intro W base args ds gs before hval0 hW _ hcond _ hL _ _
  have hk := bulk_bound (hcond _ rfl)
  have hval : ∀ (j : Nat) t v, Tryd.f5.params[j]? = some t → args[j]? = some v → Value.okWide Tryd.prog W .any base t v := hval0
  have hW' := hW
  have hlt := hW.lt
  obtain ⟨p, q, hA0, hV, rfl, hfz, hnd⟩ := hW
  have hA : DataW.TrodAll enc Tryd.prog W 0 (fun _ => true) true Tryd.f5.params.toList args.toList ds p := hA0
  rw [Tryd.params5] at hA hval
  obtain ⟨v0, v1, d0, d1, p0, p1, rfl, rfl, rfl, h0, h1'⟩ := trodAll_two hA
  obtain ⟨rfl, rfl⟩ := trodVars_none hV
  obtain ⟨s, rfl, rfl, rfl, hs⟩ := open_string Tryd.underlying9 (hval 1 9 v1 rfl rfl) h1'
  obtain ⟨k, n, t, A, f, c, rfl, h1, h2, h3, h4, h5, h6⟩ := value_arg (hval 0 34 v0 rfl rfl) h0
  have hE := env_of_laid hL
  clear hA0 hval0
  simp only [List.append_nil] at hW' hk hlt
  simp only [Rows.uptoBulkAll] at hk
  refine (values_says k n t f A c s W hE h3 h1 h2 h4 h5 (by omega)).mono fun e W' ⟨he, hb⟩ => ?_
  subst he
  exact ⟨_, rfl, post_kept (s := Rows.deedValuesSpec) (pa := p0) (pv := []) hW' (fun _ _ _ => (trodAll_cons_mk (shut_bool Tryd.underlying4 _) trodAll_mk0)) (fun sp hsp => by
    have := trodAll_mk2 (arg_kept (by kernel_rfl) (of_decide_eq_true (by kernel_rfl)) h0 hb hlt hsp) (shut_string (enc := enc) (w := W') (base := 0) (sp := sp) (held := true) Tryd.underlying9 hs)
    simp only [List.append_nil] at this
    exact this) (fun _ _ => rfl) (by simp) (hb.frame _)⟩
theorem overValues : Rows.DeedValuesUptoSaid :=
  OpenClaim.holds_of_cond 5 Tryd.f5 rfl rfl rfl rfl rfl rfl rfl ⟨rfl, rfl, rfl, rfl, rfl⟩ rfl rfl rfl rfl rfl (by kernel_rfl) Tryd.func5 deedValuesUptoRowFacts.closed
    (of_decide_eq_true (by kernel_rfl)) (by unfold Func.isWrapper; first | (rw [if_pos (by decide +kernel)]; kernel_rfl) | (rw [if_neg (by decide +kernel)]; exact ⟨rfl, rfl⟩))
    (fun os started H enc _ F => by rw [OpenClaim.pre_eq_preRow]; exact liftedValues os started H enc F)
/-- THE STATEMENT. -/
theorem proved : Rows.DeedValuesUptoCardSaid :=
  Claim7.holds_tied_plain_at .later [] _ _ _ _
    overValues (fun _ h => by cases h) (by kernel_rfl) (fun _ h => by cases h) deedValuesUpto_row_tie rfl ⟨rfl, rfl⟩ (by kernel_rfl) rfl
    (fun f fn hf hfn => by
      obtain rfl : f = 5 := Option.some.inj ((show Tryd.prog.funcNamed "roadstead/roadkeep1.DeedValues" = some 5 by kernel_rfl).symm.trans hf) |>.symm
      obtain rfl : fn = Tryd.f5 := (Option.some.inj (Tryd.func5.symm.trans hfn)).symm
      exact ⟨by kernel_rfl, fun j t ht => by
        rw [Tryd.params5] at ht
        have h9 : t = 34 ∨ t = 9 := by
          rcases j with _ | j
          · left; simpa using ht.symm
          · rcases j with _ | j
            · right; simpa using ht.symm
            · simp at ht
        rcases h9 with rfl | rfl
        · exact (show Tryd.prog.wantsStandIn 34 = false by kernel_rfl)
        · exact (show Tryd.prog.wantsStandIn 9 = false by kernel_rfl)⟩)
    (by kernel_rfl)
#print axioms proved
end Go.Proofs.YtkmpnfploplpfaaDoor
