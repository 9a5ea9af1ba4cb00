/- Proved: henkanlaw30.KeysBetween returns true for every four strings: between two keys of words whose readings begin with a prefix there is no other key. No condition of ours. -/
import Derived.Test.YtbdiimldociobaaDoorFrame
import Derived.Test.YtbdiimldociobaaDoorKeysT
import Derived.Test.YtbdiimldociobaaDoorKeysBetB
namespace Go.Proofs.YtbdiimldociobaaDoor
open Go.ChangeShapes Go.WideShapes Go.ChangeAt Go.RowKit Go.Lib Go.Shelf Hk
open Go.ChangeMaps (open_string shut_string)
set_option linter.unusedSimpArgs false
set_option linter.unusedVariables false
set_option maxRecDepth 100000

theorem sized_agg4 {H : Type} {P : Program} {ts : List TypeId} {ds : List (DataW H)} (h : (DataW.weightsEach P ts ds).all (· ≤ reachBytes) = true) {j : Nat} {t s : TypeId} {fs : Array Field} {a b c d : List UInt8} (ht : ts[j]? = some t)
    (hd : ds[j]? = some (.agg [.lit (.string a), .lit (.string b), .lit (.string c), .lit (.string d)])) (hu : P.underlying t = some (.struct fs)) (hfs : fs.toList.map (·.type) = [s, s, s, s]) :
    a.length ≤ reachBytes ∧ b.length ≤ reachBytes ∧ c.length ≤ reachBytes ∧ d.length ≤ reachBytes := by
  have hw := fun n hn => List.all_eq_true.1 h n (DataW.weights_mem_each ht hd n hn)
  simp only [DataW.weights, hu, hfs, DataW.weightsEach, List.append_nil, List.mem_append, List.mem_singleton, decide_eq_true_eq] at hw
  exact ⟨hw _ (by simp), hw _ (by simp), hw _ (by simp), hw _ (by simp)⟩
theorem reach_le {s : ByteArray} (h : s.data.toList.length ≤ reachBytes) : s.size ≤ 140737488351232 := by
  have h2 : s.size = s.data.toList.length := by simp
  rw [h2]
  exact h

theorem keysBetween_lifted (os : Os) (started : os.Started) (H : Type) (enc : TypeId × Value → H) :
    ReturnsInHanded {} Tryd.checked os 8 .any (fun w args => (Rows.keysBetweenSpec.pre enc Tryd.prog Tryd.f8 Rows.keysBetweenRow.domain false w args ∧ laidMetH Tryd.prog laidOf w) ∧ sizedMet enc Tryd.prog Tryd.f8 (OpenSpec.ofChange Rows.keysBetweenSpec) false w args)
      (Rows.keysBetweenSpec.post enc Tryd.prog Tryd.f8 false true false false) := by
  refine returns_shaped (C := Tryd.checked) (X := fun w _ => laidMetH Tryd.prog laidOf w) (fun _ _ _ hh h => h.of_heap hh) own started (by kernel_rfl) Tryd.func8
    (ChangeSpec.witness_shaped (enc := enc) (C := Tryd.checked) (os := os) (X := fun w _ => laidMetH Tryd.prog laidOf w) false (World.laidAll Tryd.prog os laidOf) #[.agg #[.string ⟨#[]⟩, .string ⟨#[]⟩, .string ⟨#[]⟩, .string ⟨#[]⟩]] 8 (World.laidAll_os _ _ _)
      (World.shaped_of_ZipB (by kernel_rfl) (by kernel_rfl)) (by kernel_rfl) (by kernel_rfl) (by kernel_rfl)
      (by rw [MakeChecks.laidMetH_plain _ _ _ laidOf_plain]; exact laidMet_laidAll _ (by kernel_rfl) (by kernel_rfl))) ?_
  intro W base args ds gs before hval0 hW hz hL hsh
  have hval : ∀ (j : Nat) t v, Tryd.f8.params[j]? = some t → args[j]? = some v → Value.okWide Tryd.prog W .any base t v := hval0
  have hW' := hW
  obtain ⟨p, q, hA0, hV, rfl, _, _⟩ := hW
  have hA : DataW.TrodAll enc Tryd.prog W 0 (fun _ => true) true Tryd.f8.params.toList args.toList ds p := hA0
  have hpar : Tryd.f8.params = #[34] := by kernel_rfl
  rw [hpar] at hA hval
  obtain ⟨v0, d0, hargs, rfl, h0⟩ := trodAll_one hA
  obtain rfl : args = #[v0] := by first | exact hargs | (cases args; simp_all)
  obtain ⟨c0, c1, c2, c3, y0, y1, y2, y3, m, rfl, rfl, rfl, hy0, hy1, hy2, hy3⟩ := Go.Joins.open_agg4 Tryd.underlying34 (by kernel_rfl) (by kernel_rfl) (hval 0 34 v0 rfl rfl) h0
  obtain ⟨s0, e0, rfl, u0⟩ := DataW.trod_string Tryd.underlying9 hy0
  obtain ⟨s1, e1, rfl, u1⟩ := DataW.trod_string Tryd.underlying9 hy1
  obtain ⟨s2, e2, rfl, u2⟩ := DataW.trod_string Tryd.underlying9 hy2
  obtain ⟨s3, e3, rfl, u3⟩ := DataW.trod_string Tryd.underlying9 hy3
  simp at e0 e1 e2 e3
  subst e0 e1 e2 e3
  obtain ⟨r0, r1, r2, r3⟩ := sized_agg4 hz (j := 0) (t := 34) rfl rfl Tryd.underlying34 rfl
  refine (keysBetween_calls s0 s1 s2 s3 W (reach_le r0) (reach_le r1) (reach_le r2) (reach_le r3) (env_of hL hsh)).mono fun e W' ⟨he, hbl⟩ => ?_
  subst he
  exact ⟨_, rfl, law_post rfl rfl (by kernel_rfl) hW' rfl rfl rfl hbl⟩

theorem keysBetween_row : Rows.KeysBetweenSaid :=
  OpenClaim.holds_of_wide 8 Tryd.f8 rfl rfl rfl rfl rfl rfl rfl ⟨rfl, rfl, rfl, rfl, rfl⟩ rfl rfl rfl rfl rfl (by kernel_rfl) Tryd.func8 (by kernel_rfl)
    (of_decide_eq_true (by kernel_rfl)) (by unfold Func.isWrapper; first | (rw [if_pos (by decide +kernel)]; kernel_rfl) | (rw [if_neg (by decide +kernel)]; exact ⟨rfl, rfl⟩))
    (fun os started H enc _ => keysBetween_lifted os started H enc)
theorem keysBetween_holds : Rows.KeysBetweenCardSaid :=
  Claim7.holds_tied_plain_at .later [] [.data, .pinned] true Rows.keysBetweenCard.stood.harness false keysBetween_row (fun _ h => by cases h) (by kernel_rfl) (fun _ h => by cases h) keysBetween_row_tie rfl ⟨rfl, rfl⟩ (by kernel_rfl) rfl
    (fun f fn hf hfn => by
      obtain rfl : f = 8 := Option.some.inj ((show Tryd.prog.funcNamed Rows.keysBetweenRow.func = some 8 by kernel_rfl).symm.trans hf) |>.symm
      obtain rfl : fn = Tryd.f8 := (Option.some.inj (Tryd.func8.symm.trans hfn)).symm
      exact ⟨by kernel_rfl, fun j t ht => by
        have hpar : Tryd.f8.params = #[34] := by kernel_rfl
        rw [hpar] at ht
        have hm : t ∈ [34] := by simpa using Array.mem_of_getElem? ht
        have hall : ([34].all fun u => !Tryd.prog.wantsStandIn u) = true := by kernel_rfl
        exact (show Tryd.prog.wantsStandIn t = false by simpa using List.all_eq_true.1 hall t hm)⟩)
    (by kernel_rfl)
#print axioms keysBetween_holds
end Go.Proofs.YtbdiimldociobaaDoor
