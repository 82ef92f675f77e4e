import Derived.Test.YtlonpljlojgclaaAvArgs
import Derived.SizedLaws
import Derived.Carry
import Derived.ChangeShapes
import Derived.WideShapes
import Derived.RowKit
import Derived.OpenShut
import Derived.WalkKit
import Derived.ProofKit
import Derived.ChangeOld
import Derived.Below
set_option linter.unusedSimpArgs false
set_option linter.unusedVariables false
namespace Go.Av
open Go Go.ChangeShapes Go.WideShapes Go.ChangeAt Go.RowKit

/-! ## From a law on abstract values to the statement's row -/

/-- What a law is asked of: arguments over memory that is only read. -/
structure ArgsOK (P : Program) (ts : List TypeId) (H : Heap) (vs : List AV) : Prop where
  ro : RoHeap H
  len : vs.length = ts.length
  wt : ∀ (i : Nat) (v : AV) (t : TypeId), vs[i]? = some v → ts[i]? = some t → wt P v t = true
  ok : okIL vs = true
  valid : validL P H vs
  ty : ∀ (i : Nat) (v : AV) (t : TypeId), vs[i]? = some v → ts[i]? = some t → tyS P v t = true

def LawA (P : Program) (f : FuncId) (ts : List TypeId) : Prop :=
  ∀ H vs, ArgsOK P ts H vs → ∃ H', CallRuns P f vs H (.ret (.bool true)) H'

section
variable {P : Program} {W : World} {Hh : Type} {enc : TypeId × Value → Hh} {base : Nat}

theorem leaf_ag {v : AV} {t : TypeId} (h : wt P v t = true) : v.isAg = match P.underlying t with | some d => isAggD d | none => false := by
  cases v <;> simp only [wt, leafT, AV.isAg] at h ⊢
  case ag l =>
    cases hu : P.underlying t with
    | none => simp [hu] at h
    | some d => cases d <;> simp [hu, isAggD] at h ⊢
  all_goals
    cases hu : P.underlying t with
    | none => rfl
    | some d => cases d <;> first | rfl | (simp [hu, leafOK] at h)

theorem okWide_ag {d : Nat} {t : TypeId} (hp : pureT P d t = true) {v : Value} (h : Value.okWide P W .any base t v) : isAggV v = match P.underlying t with | some d => isAggD d | none => false := by
  cases d with
  | zero => simp [pureT] at hp
  | succ d =>
  unfold pureT at hp
  cases hu : P.underlying t with
  | none => simp [hu] at hp
  | some k =>
    cases k with
    | bool => obtain ⟨b, rfl⟩ := okWide_bool hu h; rfl
    | int kk => obtain ⟨n, rfl⟩ := okWide_int hu h; rfl
    | string => obtain ⟨s, rfl⟩ := okWide_string hu h; rfl
    | struct fs => simp only [Value.okWide, hu] at h; obtain ⟨cs, rfl, _⟩ := h; rfl
    | array n e => simp only [Value.okWide, hu] at h; obtain ⟨cs, rfl, _⟩ := h; rfl
    | slice e => obtain ⟨a, l, c, rfl⟩ := okWide_slice hu h; rfl
    | _ => simp [hu] at hp

theorem readAll {d : Nat} : ∀ (ts : List TypeId) (args : List Value) (ds : List (DataW Hh)) (p : List MemPlace), ts.all (pureT P d) = true → DataW.TrodAll enc P W 0 (fun _ => true) true ts args ds p →
    (∀ n ∈ DataW.weightsEach P ts ds, n ≤ reachBytes) → (∀ (j : Nat) t v, ts[j]? = some t → args[j]? = some v → Value.okWide P W .any base t v) →
    ∀ g H, Sim P g H W → RoHeap H → ∃ g' H' vs, Sim P (g ++ g') (H ++ H') W ∧ RoHeap H' ∧ TRelL P (g ++ g') vs args ∧ vs.length = ts.length ∧
      (∀ (i : Nat) (v : AV) (t : TypeId), vs[i]? = some v → ts[i]? = some t → WT P v t) ∧ okIL vs = true ∧ validL P (H ++ H') vs
  | [], args, ds, p, _, hA, _, _, g, H, hs, hr => by
      obtain ⟨rfl, _, _⟩ := trodAll_nil hA
      exact ⟨[], [], [], by simpa using hs, by intro b hb; simp at hb, rfl, rfl, fun i v t h => by simp at h, rfl, trivial⟩
  | t :: ts, args, ds, p, hall, hA, hz, hval, g, H, hs, hr => by
      obtain ⟨v, vs', x, ds', q, q', rfl, rfl, rfl, hv, hA'⟩ := trodAll_cons hA
      simp only [List.all_cons, Bool.and_eq_true] at hall
      obtain ⟨fuel, hf⟩ := hv
      obtain ⟨g1, H1, u, a1, a2, a3, a4, a5, a6⟩ := readA fuel d t _ _ hall.1 hf (fun n hn => hz n (by simp only [DataW.weightsEach, List.mem_append]; exact .inl hn)) g H hs hr
      obtain ⟨g2, H2, us, b1, b2, b3, b4, b5, b6, b7⟩ := readAll ts vs' ds' q' hall.2 hA' (fun n hn => hz n (by simp only [DataW.weightsEach, List.mem_append]; exact .inr hn)) (fun j t v h1 h2 => hval (j + 1) t v (by simpa using h1) (by simpa using h2)) _ _ a1 (hr.append a2)
      refine ⟨g1 ++ g2, H1 ++ H2, u :: us, by simpa using b1, a2.append b2, ?_, by simp [b4], fun i v' t' h1 h2 => ?_, by simp [okIL, a5, b6], by rw [← List.append_assoc]; exact ⟨valid_append _ a6, b7⟩⟩
      · simp only [TRelL]
        rw [← List.append_assoc]
        exact ⟨v, vs', rfl, FRel.mono (GLe.append _ _) _ _ a3, (leaf_ag a4.wt).trans (okWide_ag hall.1 (hval 0 t v rfl rfl)).symm, b3⟩
      · cases i with
        | zero => simp at h1 h2; subst h1; subst h2; exact a4
        | succ i => exact b5 i v' t' (by simpa using h1) (by simpa using h2)

theorem roHeap_not_own {H : Heap} (h : RoHeap H) (g : List G) (r : Nat) : ¬ OwnH g H true r := by
  rintro ⟨n, x, b, _, h2, h3, _⟩
  rcases h b (List.mem_of_getElem? h2) with ⟨t, l, rfl, _⟩ | rfl <;> simp [Blk.is, Blk.own] at h3

theorem law_calls {d : Nat} {f : FuncId} {ts : List TypeId} (hp : ts.all (pureT P d) = true) (law : LawA P f ts) {args : Array Value} {ds : List (DataW Hh)} {p : List MemPlace}
    (hA : DataW.TrodAll enc P W 0 (fun _ => true) true ts args.toList ds p) (hz : ∀ n ∈ DataW.weightsEach P ts ds, n ≤ reachBytes)
    (hval : ∀ (j : Nat) t v, ts[j]? = some t → args[j]? = some v → Value.okWide P W .any base t v) :
    Calls P f args W fun e W' => e = .returned (.bool true) ∧ Below W.heap.size W W' := by
  obtain ⟨g, H, vs, h1, h2, h3, h4, h5, h6, h7⟩ := readAll ts args.toList ds p hp hA hz (fun j t v h1 h2 => hval j t v h1 (by simpa using h2)) [] [] ⟨rfl, fun n x b h => by simp at h, fun n m x y b c h => by simp at h⟩ (by intro b hb; simp at hb)
  simp only [List.nil_append] at h1 h3 h7
  obtain ⟨H', hc⟩ := law H vs ⟨h2, h4, fun i v t e1 e2 => (h5 i v t e1 e2).wt, h6, h7, fun i v t e1 e2 => (h5 i v t e1 e2).ty⟩
  have := hc.run g W args.toList h1 h3
  simp only [Array.toArray_toList] at this
  refine this.mono ?_
  rintro e w' ⟨g', ⟨v', rfl, hv⟩, hs, he⟩
  refine ⟨by rw [VRel.bool_inv (P := P) (g := g') hv], he.os, he.tape, he.output, he.size, fun k hk => he.keep k hk (roHeap_not_own h2 g k)⟩

theorem argsStay (hl : laidOutB P = true) : ∀ (ts : List TypeId) (args : List Value) (ds : List (DataW Hh)) (p : List MemPlace), (∀ t ∈ ts, P.readableRec t = true ∧ t < P.types.size) →
    DataW.TrodAll enc P W 0 (fun _ => true) true ts args ds p → ∀ {W' : World}, Below W.heap.size W W' → DataW.TrodAll enc P W' 0 (fun b => decide (b < W.heap.size)) true ts args ds p
  | [], args, ds, p, _, hA, W', hb => by obtain ⟨rfl, rfl, rfl⟩ := trodAll_nil hA; exact rfl
  | t :: ts, args, ds, p, hr, hA, W', hb => by
      obtain ⟨v, vs', x, ds', q, q', rfl, rfl, rfl, hv, hA'⟩ := trodAll_cons hA
      have hlt : ∀ y ∈ q, y.block < W.heap.size := by obtain ⟨m, hm⟩ := hv; exact DataW.trod_lt m _ _ _ hm
      exact ⟨q, q', Below.trod hl (hr t (by simp)).1 (hr t (by simp)).2 hv hb hlt, argsStay hl ts vs' ds' q' (fun t ht => hr t (by simp [ht])) hA' hb, rfl⟩

/-- The row's step. -/
theorem law_lifted {a : Assume} {C : Checked} {os : Os} {f : FuncId} {fn : Func} {s : ChangeSpec} {conds : List PathCond} {d : Nat} (own : ownKnob C.prog.godebug = none) (started : os.Started) (noInit : C.prog.inits.idxOf? f = none) (hfn : C.prog.funcs[f]? = some fn)
    (witness : ∃ (w : World) (tape : Tape) (i : Input), w.os = os ∧ (w.forCall tape i).Shaped C.prog ∧ i.vars = [] ∧ Input.okWide C.prog (w.forCall tape i) .any w.heap.size f i ∧
      s.pre6 enc C.prog fn conds false (w.forCall tape i).memory i.args ∧ a.holds C.prog (lone (Frame.enter C.prog f i.args .normal) [] (w.forCall tape i)))
    (hl : laidOutB C.prog = true) (hp : fn.params.toList.all (pureT C.prog d) = true) (hr : ∀ t ∈ fn.params.toList, C.prog.readableRec t = true ∧ t < C.prog.types.size) (hres : ∃ t, fn.resultTypes = #[t] ∧ C.prog.underlying t = some .bool)
    (hvars : s.vars = []) (hs : ∀ ds : List (DataW Hh), ds.length = fn.params.size → (s.fn Hh ds).results = [.lit (.bool true)] ∧ (s.fn Hh ds).args = ds ∧ (s.fn Hh ds).vars = [])
    (law : LawA C.prog f fn.params.toList) :
    ReturnsInHanded a C os f .any (s.pre6 enc C.prog fn conds false) (s.post enc C.prog fn false true false false) := by
  refine returnsInHanded_of_change_sized own started noInit hfn witness ?_
  intro W base args ds gs before hval hW hcnd hz _
  have hW' := hW
  obtain ⟨p, q, hA, hV, rfl, hfz, hnd⟩ := hW
  rw [hvars] at hV
  obtain ⟨rfl, rfl⟩ := trodVars_none hV
  have hlen : ds.length = fn.params.size := by
    have : ∀ (ts : List TypeId) (vs : List Value) (ds : List (DataW Hh)) (p : List MemPlace), DataW.TrodAll enc C.prog W 0 (fun _ => true) true ts vs ds p → ds.length = ts.length := by
      intro ts
      induction ts with
      | nil => intro vs ds p h; obtain ⟨rfl, rfl, rfl⟩ := trodAll_nil h; rfl
      | cons t ts ih => intro vs ds p h; obtain ⟨v, vs', x, ds', q, q', rfl, rfl, rfl, hv, hA'⟩ := trodAll_cons h; simp [ih vs' ds' q' hA']
    simpa using this _ _ _ _ hA
  obtain ⟨e1, e2, e3⟩ := hs ds hlen
  have hz' : ∀ n ∈ DataW.weightsEach C.prog fn.params.toList ds, n ≤ reachBytes := by
    intro n hn
    have := List.all_eq_true.1 hz n ?_
    · simpa using this
    · have hv0 : s.plain.varTypes C.prog = [] := by simp [ChangeSpec.plain, DataSpec.varTypes, hvars]
      rw [hv0]; simpa using hn
  obtain ⟨t, hrt, hrb⟩ := hres
  refine (law_calls hp law hA hz' (fun j t v h1 h2 => hval j t v (by simpa using h1) h2)).mono ?_
  rintro e W' ⟨rfl, bel⟩
  refine ⟨_, rfl, ds, [], _, [], p, [], hW', ?_, ?_, ?_, bel.frame _, fun h => by cases h⟩
  · simp only [List.append_nil, e1, hrt]
    exact trodAll_mk1 (shut_bool hrb _)
  · simp only [List.append_nil, e2]
    exact argsStay hl _ _ _ _ hr hA bel
  · simp only [List.append_nil, e3, hvars]
    exact rfl

end
end Go.Av
