import Derived.Test.YtlonpljlojgclaaAvOk1
import Derived.ChangeKeysEq
set_option linter.unusedSimpArgs false
set_option linter.unusedVariables false
namespace Go.Av
open Go

section
variable {P : Program} {g : List G} {w : World}

theorem info_of_underlying {t : TypeId} {d : TypeDesc} (h : P.underlying t = some d) : ∃ i, P.info? t = some i := by
  unfold Program.underlying at h
  cases hi : P.info? t with
  | none => simp [hi] at h
  | some i => exact ⟨i, rfl⟩

theorem run_sizeOf_cells {t : TypeId} {d : TypeDesc} (h : P.underlying t = some d) : (sizeOf t).run P w = .ok (P.cellsOf t) w := by
  obtain ⟨i, hi⟩ := info_of_underlying h
  simp [sizeOf, typeInfo, Program.cellsOf, hi]

/-- Comparing at a type. -/
def EqFits (P : Program) (e : Nat) (t : TypeId) : Prop :=
  ∀ (g : List G) (w : World) (x y : AV) (b : Bool), wt P x t = true → wt P y t = true → eqA x y = some b → ∀ vx vy, VRel P g x vx → VRel P g y vy → (Op.equalIn e t vx vy).run P w = .ok b w

theorem eqFields_ok (e : Nat) (xs ys : Array Value) : (fs : List Field) → (∀ f ∈ fs, f.name ≠ "_" ∧ EqFits P e f.type) → (l m : List AV) → (off size : Nat) → (b : Bool) →
    wtF P l fs off size = true → wtF P m fs off size = true → eqL l m = some b →
    (cx cy px py : List Value) → xs.toList = px ++ cx → ys.toList = py ++ cy → px.length = off → py.length = off → FRelL P g l cx → FRelL P g m cy →
    (Op.eqFields e xs ys fs).run P w = .ok b w
  | [], _, l, m, off, size, b, h1, h2, h3, cx, cy, px, py, _, _, _, _, _, _ => by
      cases l <;> simp [wtF] at h1
      cases m <;> simp [wtF] at h2
      simp [eqL] at h3
      subst h3
      simp [Op.eqFields]
  | f :: fs, hf, l, m, off, size, b, h1, h2, h3, cx, cy, px, py, ex, ey, lx, ly, rx, ry => by
      cases l with
      | nil => simp [wtF] at h1
      | cons v l =>
      cases m with
      | nil => simp [wtF] at h2
      | cons u m =>
      simp only [wtF, Bool.and_eq_true, beq_iff_eq] at h1 h2
      obtain ⟨⟨o1, w1⟩, t1⟩ := h1
      obtain ⟨⟨o2, w2⟩, t2⟩ := h2
      simp only [FRelL] at rx ry
      obtain ⟨a1, a2, rfl, q1, q2⟩ := rx
      obtain ⟨b1, b2, rfl, q3, q4⟩ := ry
      simp only [eqL] at h3
      cases e1 : eqA v u with
      | none => simp [e1] at h3
      | some x =>
      cases e2 : eqL l m with
      | none => simp [e1, e2] at h3
      | some y =>
      simp only [e1, e2, Option.some.injEq] at h3
      obtain ⟨hn, hfit⟩ := hf f (by simp)
      obtain ⟨va, p1, r1⟩ := run_part_ok (g := g) (w := w) (cs := xs) w1 (c0 := px) (c1 := a1) (c2 := a2) (by rw [ex]; simp) q1
      obtain ⟨vb, p2, r2⟩ := run_part_ok (g := g) (w := w) (cs := ys) w2 (c0 := py) (c1 := b1) (c2 := b2) (by rw [ey]; simp) q3
      rw [lx, ← o1] at p1
      rw [ly, ← o1] at p2
      have p3 := hfit g w v u x w1 w2 e1 va vb r1 r2
      have l1 := wt_len (g := g) v f.type a1 w1 q1
      have l2 := wt_len (g := g) u f.type b1 w2 q3
      simp only [Op.eqFields, hn, ne_eq, not_false_eq_true, if_true, Sem.run_bind, p1, p2, p3, Result.andThen_ok]
      cases x with
      | false => subst h3; simp
      | true =>
        simp only [Bool.true_and] at h3
        subst h3
        have ih := eqFields_ok e xs ys fs (fun f hf' => hf f (by simp [hf'])) l m _ size y t1 t2 e2 a2 b2 (px ++ a1) (py ++ b1) (by rw [ex]; simp) (by rw [ey]; simp)
          (by simp only [List.length_append]; omega) (by simp only [List.length_append]; omega) q2 q4
        simpa using ih

theorem eqItems_ok (e : Nat) (t : TypeId) (hfit : EqFits P e t) (xs ys : Array Value) : (n k : Nat) → (l m : List AV) → (b : Bool) →
    l.length = n → m.length = n → wtA P l t = true → wtA P m t = true → eqL l m = some b →
    (cx cy px py : List Value) → xs.toList = px ++ cx → ys.toList = py ++ cy → px.length = k * P.cellsOf t → py.length = k * P.cellsOf t → FRelL P g l cx → FRelL P g m cy →
    (Op.eqItems e t (P.cellsOf t) xs ys (List.range' k n)).run P w = .ok b w
  | 0, k, l, m, b, n1, n2, h1, h2, h3, cx, cy, px, py, _, _, _, _, _, _ => by
      obtain rfl := List.length_eq_zero_iff.1 n1
      obtain rfl := List.length_eq_zero_iff.1 n2
      simp [eqL] at h3
      subst h3
      simp [Op.eqItems]
  | n + 1, k, l, m, b, n1, n2, h1, h2, h3, cx, cy, px, py, ex, ey, lx, ly, rx, ry => by
      cases l with
      | nil => simp at n1
      | cons v l =>
      cases m with
      | nil => simp at n2
      | cons u m =>
      simp only [wtA, Bool.and_eq_true] at h1 h2
      obtain ⟨w1, t1⟩ := h1
      obtain ⟨w2, t2⟩ := h2
      simp only [FRelL] at rx ry
      obtain ⟨a1, a2, rfl, q1, q2⟩ := rx
      obtain ⟨b1, b2, rfl, q3, q4⟩ := ry
      simp only [eqL] at h3
      cases e1 : eqA v u with
      | none => simp [e1] at h3
      | some x =>
      cases e2 : eqL l m with
      | none => simp [e1, e2] at h3
      | some y =>
      simp only [e1, e2, Option.some.injEq] at h3
      obtain ⟨va, p1, r1⟩ := run_part_ok (g := g) (w := w) (cs := xs) w1 (c0 := px) (c1 := a1) (c2 := a2) (by rw [ex]; simp) q1
      obtain ⟨vb, p2, r2⟩ := run_part_ok (g := g) (w := w) (cs := ys) w2 (c0 := py) (c1 := b1) (c2 := b2) (by rw [ey]; simp) q3
      rw [lx] at p1
      rw [ly] at p2
      have p3 := hfit g w v u x w1 w2 e1 va vb r1 r2
      have l1 := wt_len (g := g) v t a1 w1 q1
      have l2 := wt_len (g := g) u t b1 w2 q3
      rw [List.range'_succ]
      simp only [Op.eqItems, Sem.run_bind, p1, p2, p3, Result.andThen_ok]
      cases x with
      | false => subst h3; simp
      | true =>
        simp only [Bool.true_and] at h3
        subst h3
        have ih := eqItems_ok e t hfit xs ys n (k + 1) l m y (by simpa using n1) (by simpa using n2) t1 t2 e2 a2 b2 (px ++ a1) (py ++ b1) (by rw [ex]; simp) (by rw [ey]; simp)
          (by simp only [List.length_append, Nat.add_mul, Nat.one_mul]; omega) (by simp only [List.length_append, Nat.add_mul, Nat.one_mul]; omega) q2 q4
        simpa using ih

theorem eq_ok : (d e : Nat) → d ≤ e → (t : TypeId) → eqOK P d t = true → EqFits P e t
  | 0, e, _, t, h => by simp [eqOK] at h
  | d + 1, 0, hde, t, h => by omega
  | d + 1, e + 1, hde, t, h => by
      intro g w x y b hx hy he vx vy rx ry
      unfold eqOK at h
      cases hu : P.underlying t with
      | none => simp [hu] at h
      | some k =>
        have leaf : ∀ {v : AV} {vv : Value}, isAggD k = false → wt P v t = true → VRel P g v vv → leafOK v k = true ∧ FRel P g v [vv] := by
          intro v vv hk hv hr
          obtain ⟨d', hd, hag⟩ := isAg_of_wt hv
          rw [hu] at hd; cases hd
          rw [hk] at hag
          obtain ⟨_, d'', hd', hl⟩ := wt_leaf hag hv
          rw [hu] at hd'; cases hd'
          exact ⟨hl, hr.leaf hag⟩
        cases k with
        | bool =>
          obtain ⟨a1, a2⟩ := leaf rfl hx rx
          obtain ⟨b1, b2⟩ := leaf rfl hy ry
          cases x <;> simp [leafOK] at a1
          cases y <;> simp [leafOK] at b1
          simp [FRel] at a2 b2
          simp [eqA] at he
          subst a2; subst b2; subst he
          exact run_equalIn_bool w e t _ _ hu
        | int k =>
          obtain ⟨a1, a2⟩ := leaf rfl hx rx
          obtain ⟨b1, b2⟩ := leaf rfl hy ry
          cases x <;> simp [leafOK] at a1
          cases y <;> simp [leafOK] at b1
          simp [FRel] at a2 b2
          subst a2; subst b2; subst a1; subst b1
          simp [eqA] at he
          subst he
          exact run_equalIn_int w e t _ _ _ _ hu
        | string =>
          obtain ⟨a1, a2⟩ := leaf rfl hx rx
          obtain ⟨b1, b2⟩ := leaf rfl hy ry
          cases x <;> simp [leafOK] at a1
          cases y <;> simp [leafOK] at b1
          simp [FRel] at a2 b2
          simp [eqA] at he
          subst a2; subst b2; subst he
          exact run_equalIn_string w e t _ _ hu
        | struct fs =>
          simp only [hu, Bool.and_eq_true, Bool.not_eq_true', List.all_eq_true, bne_iff_ne] at h
          obtain ⟨hst, hall⟩ := h
          obtain ⟨d1, hd1, hag1⟩ := isAg_of_wt hx
          obtain ⟨d2, hd2, hag2⟩ := isAg_of_wt hy
          rw [hu] at hd1 hd2; cases hd1; cases hd2
          cases x <;> simp [AV.isAg, isAggD] at hag1
          cases y <;> simp [AV.isAg, isAggD] at hag2
          rename_i l m
          obtain ⟨xs, rfl, qx⟩ := rx.ag_inv
          obtain ⟨ys, rfl, qy⟩ := ry.ag_inv
          have hfo : P.fieldsOf t = fs := by simp [Program.fieldsOf, hu]
          rw [run_equalIn_struct w e t xs ys (by rw [hfo]; exact hu) hst, hfo]
          simp only [wt, hu] at hx hy
          simp only [eqA] at he
          exact eqFields_ok e xs ys fs.toList (fun f hf => ⟨(hall f hf).1, eq_ok d e (by omega) f.type (hall f hf).2⟩) l m 0 _ b hx hy he xs.toList ys.toList [] [] rfl rfl rfl rfl qx qy
        | array n el =>
          simp only [hu] at h
          obtain ⟨d1, hd1, hag1⟩ := isAg_of_wt hx
          obtain ⟨d2, hd2, hag2⟩ := isAg_of_wt hy
          rw [hu] at hd1 hd2; cases hd1; cases hd2
          cases x <;> simp [AV.isAg, isAggD] at hag1
          cases y <;> simp [AV.isAg, isAggD] at hag2
          rename_i l m
          obtain ⟨xs, rfl, qx⟩ := rx.ag_inv
          obtain ⟨ys, rfl, qy⟩ := ry.ag_inv
          have hel : ∃ i, P.info? el = some i := by
            cases d with
            | zero => simp [eqOK] at h
            | succ d =>
              unfold eqOK at h
              cases hu' : P.underlying el with
              | none => simp [hu'] at h
              | some d' => exact info_of_underlying hu'
          obtain ⟨i, hi⟩ := hel
          rw [run_equalIn_array w e xs ys hu hi]
          simp only [wt, hu, Bool.and_eq_true, beq_iff_eq] at hx hy
          simp only [eqA] at he
          rw [List.range_eq_range']
          exact eqItems_ok e el (eq_ok d e (by omega) el h) xs ys n 0 l m b hx.1.1 hy.1.1 hx.2 hy.2 he xs.toList ys.toList [] [] rfl rfl (by simp) (by simp) qx qy
        | _ => simp [hu] at h

theorem equal_nil_slice {e t : TypeId} (hu : P.underlying t = some (.slice e)) (b : Option Addr) (l c l' c' : Nat) : (Op.equal t (.slice b l c) (.slice none l' c')).run P w = .ok b.isNone w := by
  unfold Op.equal; rw [show Op.maxDepth = 9999 + 1 from rfl, Op.equalIn]; cases b <;> simp [run_underlying hu]
theorem equal_nil_map {k e t : TypeId} (hu : P.underlying t = some (.map k e)) (b : Option Nat) : (Op.equal t (.map b) (.map none)).run P w = .ok b.isNone w := by
  unfold Op.equal; rw [show Op.maxDepth = 9999 + 1 from rfl, Op.equalIn]; cases b <;> simp [run_underlying hu]
theorem equal_nil_ptr {e t : TypeId} (hu : P.underlying t = some (.pointer e)) (b : Option Addr) : (Op.equal t (.pointer b) (.pointer none)).run P w = .ok b.isNone w := by
  unfold Op.equal; rw [show Op.maxDepth = 9999 + 1 from rfl, Op.equalIn]; cases b <;> simp [run_underlying hu]
theorem equal_nil_fn {a b v t} (hu : P.underlying t = some (.func a b v)) (f : Fn) (x y : Array Value) : (Op.equal t (.func f x y) .nilFunc).run P w = .ok false w := by
  unfold Op.equal; rw [show Op.maxDepth = 9999 + 1 from rfl, Op.equalIn]; simp [run_underlying hu]
theorem equal_nil_nil {a b v t} (hu : P.underlying t = some (.func a b v)) : (Op.equal t .nilFunc .nilFunc).run P w = .ok true w := by
  unfold Op.equal; rw [show Op.maxDepth = 9999 + 1 from rfl, Op.equalIn]; simp [run_underlying hu]

theorem nilEqA_ok {t : TypeId} {x y : AV} {r : Bool} (hr : nilEqA P t x y = some r) {vx vy : Value} (hx : VRel P g x vx) (hy : VRel P g y vy) (ox oy : Operand) (op : BinOp) :
    (eqGuard op t ox oy vx vy).run P w = .ok () w ∧ (op = .eql → (binOp op t vx vy).run P w = .ok (.bool r) w) ∧ (op = .neq → (binOp op t vx vy).run P w = .ok (.bool (!r)) w) := by
  unfold nilEqA at hr
  split at hr
  · rename_i e p l c l' c' hu
    cases hr
    have h2 := hy.leaf rfl
    simp only [FRel] at h2
    obtain ⟨_, _, h2⟩ := h2
    have hy' : vy = .slice none 0 0 := by simpa using h2
    subst hy'
    have h1 := hx.leaf rfl
    cases p with
    | none =>
      simp only [FRel] at h1
      obtain ⟨_, _, h1⟩ := h1
      have hx' : vx = .slice none 0 0 := by simpa using h1
      subst hx'
      have := equal_nil_slice (w := w) hu none 0 0 0 0
      refine ⟨by cases op <;> simp [eqGuard], fun he => ?_, fun he => ?_⟩ <;> subst he <;> simp [binOp, this]
    | some q =>
      obtain ⟨n, pp, s, E⟩ := q
      simp only [FRel] at h1
      obtain ⟨x', v', _, h1, a, cap', h3, _⟩ := h1
      have hx' : vx = .slice (some a) l cap' := by rw [← h3]; simpa using h1
      subst hx'
      have := equal_nil_slice (w := w) hu (some a) l cap' 0 0
      refine ⟨by cases op <;> simp [eqGuard], fun he => ?_, fun he => ?_⟩ <;> subst he <;> simp [binOp, this]
  · rename_i k e p hu
    cases hr
    have h2 := hy.leaf rfl
    simp only [FRel] at h2
    have hy' : vy = .map none := by simpa using h2
    subst hy'
    have h1 := hx.leaf rfl
    have : ∃ b, vx = .map b ∧ b.isNone = p.isNone := by
      cases p with
      | none => simp only [FRel] at h1; exact ⟨none, by simpa using h1, rfl⟩
      | some n => simp only [FRel] at h1; obtain ⟨x', _, h1⟩ := h1; exact ⟨some x'.blk, by simpa using h1, rfl⟩
    obtain ⟨b, rfl, hb⟩ := this
    have := equal_nil_map (w := w) hu b
    rw [hb] at this
    refine ⟨by cases op <;> simp [eqGuard], fun he => ?_, fun he => ?_⟩ <;> subst he <;> simp [binOp, this]
  · rename_i e p hu
    cases hr
    have h2 := hy.leaf rfl
    simp only [FRel] at h2
    have hy' : vy = .pointer none := by simpa using h2
    subst hy'
    have h1 := hx.leaf rfl
    have : ∃ b, vx = .pointer b ∧ b.isNone = p.isNone := by
      cases p with
      | none => simp only [FRel] at h1; exact ⟨none, by simpa using h1, rfl⟩
      | some n => obtain ⟨n, pp, T⟩ := n; simp only [FRel] at h1; obtain ⟨x', v', _, h1, o, _, _, h3⟩ := h1; exact ⟨_, by rw [← h3]; simpa using h1, rfl⟩
    obtain ⟨b, rfl, hb⟩ := this
    have := equal_nil_ptr (w := w) hu b
    rw [hb] at this
    refine ⟨by cases op <;> simp [eqGuard], fun he => ?_, fun he => ?_⟩ <;> subst he <;> simp [binOp, this]
  · rename_i hu
    cases hr
    have h1 := hx.leaf rfl
    have h2 := hy.leaf rfl
    simp only [FRel] at h1 h2
    have hx' : vx = .nilFunc := by simpa using h1
    have hy' : vy = .nilFunc := by simpa using h2
    subst hx'; subst hy'
    have := equal_nil_nil (P := P) (w := w) hu
    refine ⟨by cases op <;> simp [eqGuard], fun he => ?_, fun he => ?_⟩ <;> subst he <;> simp [binOp, this]
  · rename_i f fa fb hu
    cases hr
    have h1 := hx.leaf rfl
    have h2 := hy.leaf rfl
    simp only [FRel] at h1 h2
    have hy' : vy = .nilFunc := by simpa using h2
    obtain ⟨a', b', h1, _⟩ := h1
    have hx' : vx = .func f a' b' := by simpa using h1
    subst hx'; subst hy'
    have := equal_nil_fn (P := P) (w := w) hu f a' b'
    refine ⟨by cases op <;> simp [eqGuard], fun he => ?_, fun he => ?_⟩ <;> subst he <;> simp [binOp, this]
  · cases hr

theorem eqlA_ok {t : TypeId} {x y : AV} {r : Bool} (hr : eqlA P t x y = some r) {vx vy : Value} (hx : VRel P g x vx) (hy : VRel P g y vy) (ox oy : Operand) (op : BinOp) :
    (eqGuard op t ox oy vx vy).run P w = .ok () w ∧ (op = .eql → (binOp op t vx vy).run P w = .ok (.bool r) w) ∧ (op = .neq → (binOp op t vx vy).run P w = .ok (.bool (!r)) w) := by
  unfold eqlA at hr
  split at hr
  · rename_i a b
    split at hr
    · rename_i hu
      cases hr
      obtain rfl := hx.bool_inv
      obtain rfl := hy.bool_inv
      have := run_equal_bool (P := P) w t a b hu
      refine ⟨eqGuard_bool op t ox oy a b, fun he => ?_, fun he => ?_⟩
      · subst he; simp [binOp, this]
      · subst he; simp [binOp, this]
    · cases hr
  · rename_i l m
    split at hr
    · rename_i hc
      simp only [Bool.and_eq_true, Bool.not_eq_true'] at hc
      obtain ⟨⟨⟨c1, c2⟩, c3⟩, c4⟩ := hc
      have := eq_ok (P := P) 20 10000 (by omega) t c1 g w (.ag l) (.ag m) r c2 c3 (by simpa [eqA] using hr) vx vy hx hy
      obtain ⟨xs, rfl, _⟩ := hx.ag_inv
      obtain ⟨ys, rfl, _⟩ := hy.ag_inv
      refine ⟨run_eqGuard_agg w op t ox oy xs ys c4, fun he => ?_, fun he => ?_⟩
      · subst he; rw [run_eql_struct, this]; rfl
      · subst he; rw [run_neq_struct, this]; rfl
    · cases hr
  · exact nilEqA_ok hr hx hy ox oy op

theorem binA_ok {op : BinOp} {t : TypeId} {x y v : AV} (h : binA P op t x y = some v) {vx vy : Value} (hx : VRel P g x vx) (hy : VRel P g y vy) (ox oy : Operand) :
    ∃ v', ((do eqGuard op t ox oy vx vy; binOp op t vx vy) : Sem Value).run P w = .ok v' w ∧ VRel P g v v' := by
  unfold binA at h
  split at h
  · rename_i k a k' b
    obtain rfl := hx.int_inv
    obtain rfl := hy.int_inv
    simp only [Sem.run_bind, eqGuard_int, Result.andThen_ok]
    split at h
    · exact shiftA_ok h t
    · split at h
      · rename_i hk; subst hk; exact intBin_ok h t
      · cases h
  · rename_i a b
    obtain rfl := hx.str_inv
    obtain rfl := hy.str_inv
    simp only [Sem.run_bind, eqGuard_str, Result.andThen_ok]
    exact strBin_ok h t
  · cases op <;> simp only [Option.map_eq_some_iff] at h <;> first
      | (obtain ⟨r, hr, rfl⟩ := h
         obtain ⟨k1, k2, k3⟩ := eqlA_ok (w := w) hr hx hy ox oy .eql
         refine ⟨_, ?_, VRel.bool⟩
         simp only [Sem.run_bind, k1, Result.andThen_ok]
         exact k2 rfl)
      | (obtain ⟨r, hr, rfl⟩ := h
         obtain ⟨k1, k2, k3⟩ := eqlA_ok (w := w) hr hx hy ox oy .neq
         refine ⟨_, ?_, VRel.bool⟩
         simp only [Sem.run_bind, k1, Result.andThen_ok]
         exact k3 rfl)
      | cases h

theorem unA_ok {op : UnOp} {x v : AV} (h : unA op x = some v) {vx : Value} (hx : VRel P g x vx) : ∃ v', (Op.unary op vx).run P w = .ok v' w ∧ VRel P g v v' := by
  unfold unA at h
  split at h
  · obtain rfl := hx.bool_inv; cases h; exact ⟨_, by simp [Op.unary], VRel.bool⟩
  · obtain rfl := hx.int_inv; cases h; exact ⟨_, by simp [Op.unary, Op.intArith], VRel.int⟩
  · cases h

theorem convA_ok {s d : TypeId} {x v : AV} (h : convA P s d x = some v) {vx : Value} (hx : VRel P g x vx) : ∃ v', (convert s d vx).run P w = .ok v' w ∧ VRel P g v v' := by
  unfold convA at h
  split at h
  · rename_i d' k _ n h1 h2
    cases h
    obtain rfl := hx.int_inv
    refine ⟨_, ?_, VRel.int⟩
    simp [convert, run_underlying h1, run_underlying h2, Conv.intToInt]
  · cases h

theorem fieldA_ok {t : TypeId} {f : Nat} {x v : AV} (h : fieldA P t f x = some v) {vx : Value} (hx : VRel P g x vx) : ∃ v', (Instr.field t vx f).run P w = .ok v' w ∧ VRel P g v v' := by
  unfold fieldA at h
  split at h
  · rename_i l
    split at h
    · rename_i fs hu
      split at h
      · rename_i hw
        obtain ⟨cs, rfl, hr⟩ := hx.ag_inv
        simp only [wt, hu] at hw
        have hf : ∃ fl, fs.toList[f]? = some fl := by
          have hlen : ∀ (l : List AV) (fs : List Field) (o s : Nat), wtF P l fs o s = true → l.length = fs.length := by
            intro l
            induction l with
            | nil => intro fs o s h; cases fs <;> simp [wtF] at h ⊢
            | cons a l ih => intro fs o s h; cases fs <;> simp [wtF] at h ⊢; exact ih _ _ _ h.2
          have := hlen l fs.toList 0 _ hw
          have hlt : f < l.length := by
            rcases Nat.lt_or_ge f l.length with h' | h'
            · exact h'
            · simp [List.getElem?_eq_none h'] at h
          exact ⟨fs.toList[f]'(by omega), by simp⟩
        obtain ⟨fl, hfl⟩ := hf
        obtain ⟨y, c0, c1, c2, e1, e2, e3, e4, e5, _⟩ := field_ok l fs.toList 0 _ cs.toList hw hr f fl hfl
        rw [h] at e1; cases e1
        obtain ⟨v', p1, p2⟩ := run_part_ok (g := g) (w := w) e4 e2 e5
        refine ⟨v', ?_, p2⟩
        have hfl' : fs[f]? = some fl := by simpa using hfl
        simp only [Nat.zero_add] at e3
        simp [Instr.field, run_underlying hu, hfl', asAgg, ← e3, p1]
      · cases h
    · cases h
  · cases h

theorem indexA_ok {t : TypeId} {x ix v : AV} (h : indexA P t x ix = some v) {vx vi : Value} (hx : VRel P g x vx) (hi : VRel P g ix vi) : ∃ v', (Instr.index t vx vi).run P w = .ok v' w ∧ VRel P g v v' := by
  unfold indexA at h
  split at h
  · rename_i k i
    obtain rfl := hi.int_inv
    split at h
    · rename_i n e l hu
      split at h
      · rename_i hc
        obtain ⟨h0, h1, hw⟩ := hc
        obtain ⟨cs, rfl, hr⟩ := hx.ag_inv
        simp only [wt, hu, Bool.and_eq_true, beq_iff_eq] at hw
        obtain ⟨⟨hl, _⟩, hwa⟩ := hw
        obtain ⟨y, c0, c1, c2, e1, e2, e3, e4, e5, _⟩ := elem_ok l e cs.toList hwa hr i.toNat (by omega)
        rw [h] at e1; cases e1
        obtain ⟨v', p1, p2⟩ := run_part_ok (g := g) (w := w) e4 e2 e5
        refine ⟨v', ?_, p2⟩
        obtain ⟨d, hd, _⟩ := isAg_of_wt e4
        rw [e3] at p1
        simp [Instr.index, asIntOf, run_underlying hu, h0, h1, run_sizeOf_cells hd, p1]
      · cases h
    · rename_i s hu
      split at h
      · rename_i h0
        split at h
        · rename_i b hb
          cases h
          obtain rfl := hx.str_inv
          refine ⟨_, ?_, VRel.int⟩
          simp [Instr.index, asIntOf, run_underlying hu, h0, hb]
        · cases h
      · cases h
    · cases h
  · cases h

theorem extractA_ok {i : Nat} {x v : AV} (h : extractA i x = some v) {vx : Value} (hx : VRel P g x vx) : ∃ v', (Instr.extract vx i).run P w = .ok v' w ∧ VRel P g v v' := by
  unfold extractA at h
  split at h
  · obtain ⟨vs, rfl, hr⟩ := hx.tup_inv
    obtain ⟨v', h1, h2⟩ := TRelL.get _ _ hr i v h
    refine ⟨v', ?_, h2⟩
    have h1' : vs[i]? = some v' := by simpa using h1
    simp [Instr.extract, h1']
  · cases h

end
end Go.Av
