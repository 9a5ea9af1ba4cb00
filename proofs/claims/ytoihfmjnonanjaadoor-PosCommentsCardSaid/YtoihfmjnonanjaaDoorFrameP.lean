/- The frame of a law: what the call returns in every world that fits, as the row asks it; and what the listed variables give. -/
import Derived.Test.YtoihfmjnonanjaaDoorTie
import Derived.Test.YtoihfmjnonanjaaDoorCards
import Derived.Test.YtoihfmjnonanjaaDoorPosE
import Derived.ProofKit
import Derived.OpenShut
import Derived.LaidMore
import Derived.Lay
import Derived.SevenTiedAt
import Derived.HandedShaped
import Derived.Lib.LaidU8T
import Derived.Lib.LaidU8
import Derived.Stop.Joined
namespace Go.Proofs.YtoihfmjnonanjaaDoor
open Go.ChangeShapes Go.WideShapes Go.ChangeAt Go.RowKit Go.Lib Go.Shelf
set_option linter.unusedSimpArgs false
set_option linter.unusedVariables false
set_option maxRecDepth 100000

theorem own : ownKnob Tryd.prog.godebug = none := by kernel_rfl
theorem laidOut : laidOutB Tryd.prog = true := by kernel_rfl

def laidOf : List (String × DataW Unit) := [("unicode/utf8.acceptRanges", Rows.laid_unicode_utf8_acceptRanges), ("henkan/pos.kinds", Rows.laid_henkan_pos_kinds), ("unicode/utf8.first", Rows.laid_unicode_utf8_first)]
theorem laidOf_plain : (laidOf.all fun x => x.2.handleName?.isNone) = true := by kernel_rfl

def kindData : DataW Unit := .agg ((List.range 3).map fun i => .lit (.string (Hk.kindsL.getD i ByteArray.empty).data.toList))
theorem kind_is : (Rows.laid_henkan_pos_kinds : DataW Unit) = kindData := by kernel_rfl
theorem kindsW_of {w : World} (h : VarReads Tryd.prog w "henkan/pos.kinds" kindData) : KindsW w := by
  obtain ⟨g, t, cs, fuel, p, hg, ht, hv, hd⟩ := h
  obtain rfl : g = 0 := (Option.some.inj ((show Tryd.prog.globalNamed "henkan/pos.kinds" = some 0 by kernel_rfl).symm.trans hg)).symm
  obtain rfl : t = 68 := (Option.some.inj ((show (Tryd.prog.globals[0]?).map (·.type) = some 68 by kernel_rfl).symm.trans ht)).symm
  have hlen : cs.toList.length = 3 := by
    cases fuel with
    | zero => simp [DataW.trod] at hd
    | succ fuel =>
      simp only [DataW.trod, Tryd.underlying68] at hd
      split at hd
      · rename_i hl
        have hct : Tryd.prog.cellsOf 68 = 3 := by kernel_rfl
        simpa [hct] using hl
      · cases hd
  have hct : Tryd.prog.cellsOf 9 = 1 := by kernel_rfl
  have hch : ∀ i, i < 3 → cs.toList[i]? = some (.string (Hk.kindsL.getD i ByteArray.empty)) := by
    intro i hi
    obtain ⟨f', d, q, hdi, he⟩ := array_elem Tryd.underlying68 hd i hi
    rw [hct] at he
    rw [List.getElem?_map, List.getElem?_range hi] at hdi
    obtain rfl := Option.some.inj hdi
    obtain ⟨z, hz, e', _⟩ := DataW.trod_string Tryd.underlying9 he
    injection e' with e' _
    simp only [DataW.lit.injEq, Lit.string.injEq] at e'
    have hz0 := congrArg (·[0]?) hz
    simp only [List.getElem?_take, List.getElem?_drop] at hz0
    simp at hz0
    have ez : z = Hk.kindsL.getD i ByteArray.empty := by
      have h2 := Hk.mk_list z
      rw [← h2, ← e', Hk.mk_list]
    rw [← ez]
    simpa using hz0
  have hcs : cs = kindRow := by
    apply Array.ext'
    apply List.ext_getElem?
    intro k
    by_cases hk : k < 3
    · rw [hch k hk]
      have : k = 0 ∨ k = 1 ∨ k = 2 := by omega
      rcases this with rfl | rfl | rfl <;> rfl
    · rw [List.getElem?_eq_none (by omega), List.getElem?_eq_none (by simp [kindRow]; omega)]
  simp only [World.var?, hg, Option.bind_some] at hv
  split at hv
  · rename_i cs' t' fr hh
    obtain rfl := Option.some.inj hv
    rw [hcs] at hh
    exact ⟨t', fr, hh⟩
  · cases hv
theorem env_of {W : World} (hL : laidMetH Tryd.prog laidOf W) (hsh : W.ShapedOpen Tryd.prog) : Env W := by
  rw [MakeChecks.laidMetH_plain _ _ _ laidOf_plain] at hL
  refine ⟨kindsW_of ?_, Tryd.laysM145.s1_3 W hsh⟩
  rw [← kind_is]
  exact laidMet.reads hL (by simp [laidOf])

/-- The wrap of a row that lists variables, the world's shape kept. -/
theorem returns_shaped {H : Type} {enc : TypeId × Value → H} {a : Assume} {C : Checked} {os : Os} {f : FuncId} {fn : Func} {s : ChangeSpec} {conds : List PathCond} {apart fresh handsOn again : Bool} {X : World → Array Value → Prop}
    (hX : ∀ (w w' : World) (args : Array Value), w.heap = w'.heap → X w args → X w' args)
    (own : ownKnob C.prog.godebug = none) (started : os.Started) (noInit : C.prog.inits.idxOf? f = none) (hfn : C.prog.funcs[f]? = some fn)
    (witness : ∃ (w : World) (tape : Tape) (i : Input), w.os = os ∧ (w.forCall tape i).Shaped C.prog ∧ i.vars = [] ∧ Input.okWide C.prog (w.forCall tape i) .any w.heap.size f i ∧
      ((s.pre enc C.prog fn conds apart (w.forCall tape i).memory i.args ∧ X (w.forCall tape i).memory i.args) ∧ sizedMet enc C.prog fn (OpenSpec.ofChange s) apart (w.forCall tape i).memory i.args) ∧ a.holds C.prog (lone (Frame.enter C.prog f i.args .normal) [] (w.forCall tape i)))
    (contract : ∀ (W : World) (base : Nat) (args : Array Value) (ds gs : List (DataW H)) (before : List MemPlace),
      (∀ (j : Nat) t v, fn.params[j]? = some t → args[j]? = some v → Value.okWide C.prog W .any base t v) →
      DataW.Whole enc C.prog fn.params.toList s.vars apart W args.toList ds gs before →
      (DataW.weightsEach C.prog (fn.params.toList ++ s.plain.varTypes C.prog) (ds ++ gs)).all (· ≤ reachBytes) = true → X W args → W.ShapedOpen C.prog →
      Calls C.prog f args W fun e W' => ∃ v, e = .returned v ∧ s.post enc C.prog fn apart fresh handsOn again W args v W') :
    ReturnsInHanded a C os f .any (fun w args => (s.pre enc C.prog fn conds apart w args ∧ X w args) ∧ sizedMet enc C.prog fn (OpenSpec.ofChange s) apart w args) (s.post enc C.prog fn apart fresh handsOn again) := by
  refine returnsInHanded_of_calls own started noInit witness ?_
  intro w tape i _ hsh _ hok hpre hholds
  obtain ⟨_, _, _, fn', hfn', _, _, _, _, hval⟩ := hok
  have e : fn' = fn := Option.some.inj (hfn'.symm.trans hfn)
  subst e
  obtain ⟨⟨⟨ds, gs, before, hw, hc⟩, hx⟩, hz⟩ := hpre
  have hw' := DataW.Whole.of_heap (w' := w.forCall tape i) (by rfl) hw
  refine (contract (w.forCall tape i) w.heap.size i.args ds gs before hval hw' (hz.weights hw) (hX _ _ _ (by rfl) hx) hsh).mono fun e W' ⟨v, he, hp⟩ => ?_
  subst he
  exact ChangeSpec.post_blind hp

/-- Arguments that were read are read again as before, behind a call that leaves what was there. -/
theorem trodAll_below {H : Type} {enc : TypeId × Value → H} {P : Program} (hl : laidOutB P = true) {W W' : World} (hb : Below W.heap.size W W') : ∀ (ts : List TypeId) (vs : List Value) (ds : List (DataW H)) (ps : List MemPlace),
    (∀ t ∈ ts, P.readableRec t = true ∧ t < P.types.size) → DataW.TrodAll enc P W 0 (fun _ => true) true ts vs ds ps → (∀ x ∈ ps, x.block < W.heap.size) →
    DataW.TrodAll enc P W' 0 (fun b => decide (b < W.heap.size)) true ts vs ds ps
  | [], [], [], ps, _, h, _ => h
  | t :: ts, v :: vs, d :: ds, ps, ht, h, hlt => by
    obtain ⟨p, q, h1, h2, rfl⟩ := h
    have h3 := ht t List.mem_cons_self
    exact ⟨p, q, Below.trod hl h3.1 h3.2 h1 hb (fun x hx => hlt x (List.mem_append_left _ hx)), trodAll_below hl hb ts vs ds q (fun u hu => ht u (List.mem_cons_of_mem _ hu)) h2 (fun x hx => hlt x (List.mem_append_right _ hx)), rfl⟩
  | [], [], _ :: _, _, _, h, _ => h.elim
  | [], _ :: _, _, _, _, h, _ => h.elim
  | _ :: _, [], _, _, _, h, _ => h.elim
  | _ :: _, _ :: _, [], _, _, h, _ => h.elim

/-- A law that returned true and left memory alone. -/
theorem law_post {H : Type} {enc : TypeId × Value → H} {fn : Func} {s : ChangeSpec} {W W' : World} {args : Array Value} {ds gs : List (DataW H)} {before : List MemPlace} (hr : fn.resultTypes = #[4]) (hv : s.vars = [])
    (hp : (fn.params.toList.all fun t => Tryd.prog.readableRec t && decide (t < Tryd.prog.types.size)) = true)
    (hW : DataW.Whole enc Tryd.prog fn.params.toList s.vars false W args.toList ds gs before)
    (hres : (s.fn H ds).results = [.lit (.bool true)]) (hargs : (s.fn H ds).args = ds) (hvars : (s.fn H ds).vars = []) (hb : Below W.heap.size W W') :
    s.post enc Tryd.prog fn false true false false W args (.bool true) W' := by
  have hW0 := hW
  rw [hv] at hW
  obtain ⟨p, q, hA, hV, rfl, hnf, hnd⟩ := hW
  obtain ⟨rfl, rfl⟩ := trodVars_none hV
  refine ⟨ds, [], p ++ [], [], p, [], hW0, ?_, ?_, ?_, hb.frame _, fun h => by cases h⟩
  · rw [List.append_nil, hres, hr]
    exact trodAll_mk1 (shut_bool Tryd.underlying4 true)
  · rw [List.append_nil, hargs]
    exact trodAll_below laidOut hb _ _ _ _ (fun u hu => by have := List.all_eq_true.1 hp u hu; rw [Bool.and_eq_true] at this; exact ⟨this.1, of_decide_eq_true this.2⟩) hA fun x hx => hW0.lt x (List.mem_append_left _ hx)
  · rw [List.append_nil, hvars, hv]
    exact rfl
end Go.Proofs.YtoihfmjnonanjaaDoor
