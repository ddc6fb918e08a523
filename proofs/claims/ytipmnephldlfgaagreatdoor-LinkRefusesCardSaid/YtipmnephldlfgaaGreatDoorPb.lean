/-
  Keys, comparisons, conversions, one step and regions in the text's order: sound for every program of the model. No condition.
-/
import Derived.Test.YtipmnephldlfgaaGreatDoorPa
import Derived.Laws.StructEq
import Derived.Laws.Slices
import Derived.Laws.Append

/- Keys: what is the same; a map's entries, searched. -/
namespace Go.Pv
variable {P : Program}

mutual
theorem sameKey_eq : ∀ {a b : VVal}, sameKey a b = some true → a = b
  | .int k a, .int k' b, h => by
    simp only [sameKey] at h
    split at h
    · next e => subst e; simp at h; subst h; rfl
    · cases h
  | .str a, .str b, h => by simp [sameKey] at h; subst h; rfl
  | .bool a, .bool b, h => by simp [sameKey] at h; subst h; rfl
  | .agg xs, .agg ys, h => by simp only [sameKey] at h; rw [sameKeys_eq h]
  | .undef, _, h | .nilp, _, h | .ptr _ _, _, h | .lptr _ _ _, _, h | .iptr _, _, h | .slice _ _ _, _, h | .mslice _ _ _ _, _, h | .map _, _, h | .func _ _ _, _, h | .nilFunc, _, h | .iface _ _, _, h | .nilIface, _, h | .tuple _, _, h | .yieldv _, _, h | .rslice _ _ _, _, h | .gptr _ _ _ _, _, h | .fptr _ _, _, h => by simp [sameKey] at h
  | .int _ _, .undef, h | .int _ _, .nilp, h | .int _ _, .ptr _ _, h | .int _ _, .lptr _ _ _, h | .int _ _, .iptr _, h | .int _ _, .slice _ _ _, h | .int _ _, .mslice _ _ _ _, h | .int _ _, .map _, h | .int _ _, .func _ _ _, h | .int _ _, .nilFunc, h | .int _ _, .iface _ _, h | .int _ _, .nilIface, h | .int _ _, .tuple _, h | .int _ _, .yieldv _, h | .int _ _, .rslice _ _ _, h | .int _ _, .gptr _ _ _ _, h | .int _ _, .fptr _ _, h | .int _ _, .str _, h | .int _ _, .bool _, h | .int _ _, .agg _, h => by simp [sameKey] at h
  | .str _, .undef, h | .str _, .nilp, h | .str _, .ptr _ _, h | .str _, .lptr _ _ _, h | .str _, .iptr _, h | .str _, .slice _ _ _, h | .str _, .mslice _ _ _ _, h | .str _, .map _, h | .str _, .func _ _ _, h | .str _, .nilFunc, h | .str _, .iface _ _, h | .str _, .nilIface, h | .str _, .tuple _, h | .str _, .yieldv _, h | .str _, .rslice _ _ _, h | .str _, .gptr _ _ _ _, h | .str _, .fptr _ _, h | .str _, .int _ _, h | .str _, .bool _, h | .str _, .agg _, h => by simp [sameKey] at h
  | .bool _, .undef, h | .bool _, .nilp, h | .bool _, .ptr _ _, h | .bool _, .lptr _ _ _, h | .bool _, .iptr _, h | .bool _, .slice _ _ _, h | .bool _, .mslice _ _ _ _, h | .bool _, .map _, h | .bool _, .func _ _ _, h | .bool _, .nilFunc, h | .bool _, .iface _ _, h | .bool _, .nilIface, h | .bool _, .tuple _, h | .bool _, .yieldv _, h | .bool _, .rslice _ _ _, h | .bool _, .gptr _ _ _ _, h | .bool _, .fptr _ _, h | .bool _, .int _ _, h | .bool _, .str _, h | .bool _, .agg _, h => by simp [sameKey] at h
  | .agg _, .undef, h | .agg _, .nilp, h | .agg _, .ptr _ _, h | .agg _, .lptr _ _ _, h | .agg _, .iptr _, h | .agg _, .slice _ _ _, h | .agg _, .mslice _ _ _ _, h | .agg _, .map _, h | .agg _, .func _ _ _, h | .agg _, .nilFunc, h | .agg _, .iface _ _, h | .agg _, .nilIface, h | .agg _, .tuple _, h | .agg _, .yieldv _, h | .agg _, .rslice _ _ _, h | .agg _, .gptr _ _ _ _, h | .agg _, .fptr _ _, h | .agg _, .int _ _, h | .agg _, .str _, h | .agg _, .bool _, h => by simp [sameKey] at h
theorem sameKeys_eq : ∀ {a b : List VVal}, sameKeys a b = some true → a = b
  | [], [], _ => rfl
  | x :: xs, y :: ys, h => by
    simp only [sameKeys] at h
    split at h
    · next e => rw [sameKey_eq e, sameKeys_eq h]
    · cases h
    · cases h
  | [], _ :: _, h => by simp [sameKeys] at h
  | _ :: _, [], h => by simp [sameKeys] at h
end
theorem int_beq_comm (a b : Int) : (a == b) = (b == a) := by
  by_cases h : a = b
  · subst h; rfl
  · rw [beq_eq_false_iff_ne.2 h, beq_eq_false_iff_ne.2 (Ne.symm h)]

theorem list_beq_comm (a b : List UInt8) : (a == b) = (b == a) := by
  by_cases h : a = b
  · subst h; rfl
  · rw [beq_eq_false_iff_ne.2 h, beq_eq_false_iff_ne.2 (Ne.symm h)]

theorem sameKey_comm (a b : VVal) : sameKey a b = sameKey b a := by
  revert b
  refine VVal.rec (motive_1 := fun a => ∀ b, sameKey a b = sameKey b a) (motive_2 := fun l => ∀ m, sameKeys l m = sameKeys m l)
    ?_ ?_ ?_ ?_ ?_ ?_ ?_ ?_ ?_ ?_ ?_ ?_ ?_ ?_ ?_ ?_ ?_ ?_ ?_ ?_ ?_ ?_ ?_ a
  case refine_2 =>
    intro x b
    cases b <;> simp only [sameKey]
    rw [Bool.beq_comm]
  case refine_3 =>
    intro k x b
    cases b <;> simp only [sameKey]
    next k' y =>
      by_cases h : k = k'
      · subst h; simp only [if_true]; rw [int_beq_comm]
      · rw [if_neg h, if_neg (fun e => h e.symm)]
  case refine_4 =>
    intro x b
    cases b <;> simp only [sameKey]
    rw [list_beq_comm]
  case refine_16 =>
    intro x ih b
    cases b <;> simp only [sameKey]
    exact ih _
  case refine_22 =>
    intro m
    cases m <;> rfl
  case refine_23 =>
    intro x xs ih1 ih2 m
    cases m with
    | nil => rfl
    | cons y ys => simp only [sameKeys]; rw [ih1 y, ih2 ys]
  all_goals (intros; rename_i b; cases b <;> rfl)

/-- Primitive values. -/
theorem prim_equal {G : Ghost} {t : TypeId} {d : TypeDesc} (h2 : P.underlying t = some d) {a b : VVal} {v u : Value} {r : Bool} (fa : primFits (shapeOf P d) a = true)
    (ha : VRel G a v) (hb : VRel G b u) (h : sameKey a b = some r) (n : Nat) (w : World) : (Op.equalIn (n + 1) t v u).run P w = .ok r w := by
  cases a
  case bool x =>
    simp only [primFits] at fa
    have hd : d = .bool := by
      cases hs : shapeOf P d <;> simp [hs] at fa
      exact shape_bool hs
    subst hd
    cases b <;> simp [sameKey] at h
    subst h
    simp only [VRel] at ha hb; subst ha hb
    simp [Op.equalIn, run_underlying h2]
  case int k x =>
    simp only [primFits] at fa
    have hd : ∃ k', d = .int k' := by
      cases hs : shapeOf P d <;> simp [hs] at fa
      exact ⟨_, shape_int hs⟩
    obtain ⟨k', rfl⟩ := hd
    cases b <;> simp [sameKey] at h
    obtain ⟨rfl, rfl⟩ := h
    simp only [VRel] at ha hb; subst ha hb
    exact run_equalIn_int w n t _ _ _ _ h2
  case str x =>
    simp only [primFits] at fa
    have hd : d = .string := by
      cases hs : shapeOf P d <;> simp [hs] at fa
      exact shape_str hs
    subst hd
    cases b <;> simp [sameKey] at h
    subst h
    simp only [VRel] at ha hb; subst ha hb
    rw [run_equalIn_string w n t _ _ h2]
    simp
  all_goals (cases hs : shapeOf P d <;> simp [primFits, hs] at fa)

theorem fields_equal {G : Ghost} {xs ys : Array Value} {X Y : List VVal} (hx : VRels G X xs.toList) (hy : VRels G Y ys.toList) (ox : Ones xs.toList) (oy : Ones ys.toList) (d : Nat) (w : World) :
    ∀ {fl : List Field} {fs : List FInfo} {n : Nat} {r : Bool}, fieldInfos P fl = some fs → fieldsFit (layoutOf P) fs n (X.drop n) = true → sameKeys (X.drop n) (Y.drop n) = some r →
      (Op.eqFields (d + 1) xs ys fl).run P w = .ok r w
  | [], fs, n, r, hf, hfit, h => by
    simp [fieldInfos] at hf; subst hf
    have hX : X.drop n = [] := by
      cases hq : X.drop n with
      | nil => rfl
      | cons a l => rw [hq] at hfit; simp [fieldsFit] at hfit
    rw [hX] at h
    cases hq : Y.drop n with
    | nil => rw [hq] at h; simp [sameKeys] at h; subst h; rfl
    | cons a l => rw [hq] at h; simp [sameKeys] at h
  | f :: fl, fs, n, r, hf, hfit, h => by
    simp only [fieldInfos] at hf
    split at hf
    case h_2 => cases hf
    rename_i fi fis hf1 hf2
    simp at hf; subst hf
    unfold fieldInfo at hf1
    split at hf1
    case h_2 => cases hf1
    rename_i inf fd g1 g2
    simp at hf1; subst hf1
    cases hX : X.drop n with
    | nil => rw [hX] at hfit; simp [fieldsFit] at hfit
    | cons x xs' =>
      rw [hX] at hfit h
      cases hY : Y.drop n with
      | nil => rw [hY] at h; simp [sameKeys] at h
      | cons y ys' =>
        rw [hY] at h
        simp only [fieldsFit, Bool.and_eq_true, beq_iff_eq, Bool.not_eq_true'] at hfit
        obtain ⟨⟨⟨⟨⟨c1, c2⟩, c3⟩, c4⟩, c5⟩, c6⟩ := hfit
        have hx' : X[n]? = some x := by
          have : (X.drop n)[0]? = some x := by rw [hX]; rfl
          simpa using this
        have hy' : Y[n]? = some y := by
          have : (Y.drop n)[0]? = some y := by rw [hY]; rfl
          simpa using this
        have hxd : xs' = X.drop (n + 1) := by
          have : (X.drop n).drop 1 = xs' := by rw [hX]; rfl
          rw [← this, List.drop_drop]
        have hyd : ys' = Y.drop (n + 1) := by
          have : (Y.drop n).drop 1 = ys' := by rw [hY]; rfl
          rw [← this, List.drop_drop]
        obtain ⟨u, hu, hur⟩ := vpart_sound (P := P) (w := w) g1 g2 hx ox (off := f.offset) (r := x) (by unfold vpart; rw [c3, c1]; simpa using hx')
        obtain ⟨v, hv, hvr⟩ := vpart_sound (P := P) (w := w) g1 g2 hy oy (off := f.offset) (r := y) (by unfold vpart; rw [c3, c1]; simpa using hy')
        have hne : f.name ≠ "_" := by simpa using c4
        split at c5
        case h_2 => cases c5
        rename_i i hi
        obtain ⟨inf', d', _, e2, e3, _, _, _, _⟩ := layout_info hi
        rw [e3] at c5
        simp only [Op.eqFields, Sem.run_ite, if_pos hne, Sem.run_bind, hu, hv, Result.andThen_ok]
        simp only [sameKeys] at h
        split at h
        · next hk =>
          rw [prim_equal e2 c5 hur hvr hk d w]
          simp only [Result.andThen_ok, Bool.not_true, Bool.false_eq_true, if_false]
          rw [hxd] at c6 h
          rw [hyd] at h
          exact fields_equal hx hy ox oy d w hf2 c6 h
        · next hk =>
          simp at h; subst h
          rw [prim_equal e2 c5 hur hvr hk d w]
          simp only [Result.andThen_ok, Bool.not_false, if_true, Sem.run_pure]
        · cases h

theorem fieldsOf_eq {t : TypeId} {f : Array Field} (h : P.underlying t = some (.struct f)) : P.fieldsOf t = f := by
  unfold Program.fieldsOf; rw [h]

/-- Two keys, compared. -/
theorem key_equal {G : Ghost} {t : TypeId} {i : TInfo} (hi : layoutOf P t = some i) {k k' : VVal} {v u : Value} {r : Bool} (hf : keyFits (layoutOf P) i k = true)
    (hk : VRel G k v) (hk' : VRel G k' u) (h : sameKey k k' = some r) (n : Nat) (w : World) : (Op.equalIn (n + 2) t v u).run P w = .ok r w := by
  obtain ⟨inf, d, h1, h2, h3, _, _, _, _⟩ := layout_info hi
  obtain ⟨m1, _⟩ := layout_more hi
  unfold keyFits at hf
  split at hf
  · next cs =>
    split at hf
    · next fs hs =>
      obtain ⟨f, rfl, hfi⟩ := shape_struct (h3.symm.trans hs)
      simp only [Bool.and_eq_true, Bool.not_eq_true'] at hf
      cases k' <;> simp only [sameKey, reduceCtorEq] at h
      next cs' =>
      simp only [VRel] at hk hk'
      obtain ⟨c, rfl, hc, oc⟩ := hk
      obtain ⟨c', rfl, hc', oc'⟩ := hk'
      rw [run_equalIn_struct w (n + 1) t c c' (by rw [fieldsOf_eq h2]; exact h2) (by rw [← m1]; exact hf.1), fieldsOf_eq h2]
      exact fields_equal hc hc' oc oc' n w hfi (n := 0) (by simpa using hf.2) (by simpa using h)
    · cases hf
  · rw [h3] at hf
    exact prim_equal h2 hf hk hk' h (n + 1) w

theorem prim_desc {d : TypeDesc} {k : VVal} (h : primFits (shapeOf P d) k = true) : (∃ kk, d = .int kk) ∨ d = .string ∨ d = .bool := by
  cases hs : shapeOf P d <;> simp [hs, primFits] at h
  · exact .inl ⟨_, shape_int hs⟩
  · exact .inr (.inr (shape_bool hs))
  · exact .inr (.inl (shape_str hs))

end Go.Pv

/- A map's entries, searched. -/
namespace Go.Pv
variable {P : Program}

theorem checkKey_prim {w : World} {t : TypeId} {d : TypeDesc} (h : P.underlying t = some d) (hd : (∃ k, d = .int k) ∨ d = .string ∨ d = .bool) (b : Bool) (v : Value) (n : Nat) : (Instr.checkKey b (n + 1) t v).run P w = .ok () w := by
  rcases hd with ⟨k, rfl⟩ | rfl | rfl <;> simp [Instr.checkKey, run_underlying h]

theorem checkFields {G : Ghost} {xs : Array Value} {X : List VVal} (hx : VRels G X xs.toList) (ox : Ones xs.toList) (b : Bool) (d : Nat) (w : World) :
    ∀ {fl : List Field} {fs : List FInfo} {n : Nat}, fieldInfos P fl = some fs → fieldsFit (layoutOf P) fs n (X.drop n) = true →
      (forIn fl PUnit.unit fun f _ => if f.name ≠ "_" then do
          let q ← part f.type xs f.offset
          Instr.checkKey b (d + 1) f.type q
          pure (ForInStep.yield PUnit.unit)
        else pure (ForInStep.yield PUnit.unit) : Sem PUnit).run P w = .ok PUnit.unit w
  | [], fs, n, hf, hfit => by simp
  | f :: fl, fs, n, hf, hfit => by
    simp only [fieldInfos] at hf
    split at hf
    case h_2 => cases hf
    rename_i fi fis hf1 hf2
    simp at hf; subst hf
    unfold fieldInfo at hf1
    split at hf1
    case h_2 => cases hf1
    rename_i inf fd g1 g2
    simp at hf1; subst hf1
    cases hX : X.drop n with
    | nil => rw [hX] at hfit; simp [fieldsFit] at hfit
    | cons x xs' =>
      rw [hX] at hfit
      simp only [fieldsFit, Bool.and_eq_true, beq_iff_eq, Bool.not_eq_true'] at hfit
      obtain ⟨⟨⟨⟨⟨c1, c2⟩, c3⟩, c4⟩, c5⟩, c6⟩ := hfit
      have hx' : X[n]? = some x := by
        have : (X.drop n)[0]? = some x := by rw [hX]; rfl
        simpa using this
      have hxd : xs' = X.drop (n + 1) := by
        have : (X.drop n).drop 1 = xs' := by rw [hX]; rfl
        rw [← this, List.drop_drop]
      obtain ⟨u, hu, hur⟩ := vpart_sound (P := P) (w := w) g1 g2 hx ox (off := f.offset) (r := x) (by unfold vpart; rw [c3, c1]; simpa using hx')
      have hne : f.name ≠ "_" := by simpa using c4
      split at c5
      case h_2 => cases c5
      rename_i i hi
      obtain ⟨inf', d', _, e2, e3, _, _, _, _⟩ := layout_info hi
      rw [e3] at c5
      simp only [List.forIn_cons, Sem.run_bind, if_pos hne, hu, Result.andThen_ok, checkKey_prim e2 (prim_desc c5) b u d, Sem.run_pure]
      rw [hxd] at c6
      exact checkFields hx ox b d w hf2 c6

theorem checkKey_fits {G : Ghost} {t : TypeId} {i : TInfo} (hi : layoutOf P t = some i) {k : VVal} {v : Value} (hf : keyFits (layoutOf P) i k = true) (hk : VRel G k v) (b : Bool) (w : World) :
    (Instr.checkKey b 10000 t v).run P w = .ok () w := by
  obtain ⟨inf, d, h1, h2, h3, _, _, _, _⟩ := layout_info hi
  unfold keyFits at hf
  split at hf
  · next cs =>
    split at hf
    · next fs hs =>
      obtain ⟨f, rfl, hfi⟩ := shape_struct (h3.symm.trans hs)
      simp only [Bool.and_eq_true, Bool.not_eq_true'] at hf
      simp only [VRel] at hk
      obtain ⟨c, rfl, hc, oc⟩ := hk
      have := checkFields (P := P) hc oc b 9998 w hfi (n := 0) (by simpa using hf.2)
      show (Instr.checkKey b (9999 + 1) t (.agg c)).run P w = _
      unfold Instr.checkKey
      simp only [Sem.run_bind, run_underlying h2, Result.andThen_ok]
      rw [← Array.forIn_toList]
      rw [this]
      rfl
    · cases hf
  · rw [h3] at hf
    exact checkKey_prim h2 (prim_desc hf) b v 9999

/-- A key that is unlike. -/
def KeyNot (G : Ghost) (k : VVal) (r : MapEntry) : Prop := ∃ k', VRel G k' r.key ∧ sameKey k k' = some false
def KeyYes (G : Ghost) (k : VVal) (r : MapEntry) : Prop := ∃ k', VRel G k' r.key ∧ sameKey k k' = some true

theorem sameNow_sound {G : Ghost} {d : TypeDesc} {k k' : VVal} {v v' : Value} {b : Bool} (hf : primFits (shapeOf P d) k = true) (hk : VRel G k v) (hk' : VRel G k' v') (h : sameKey k k' = some b) : Instr.sameNow d v v' = some b := by
  rcases prim_desc hf with ⟨kk, rfl⟩ | rfl | rfl
  · cases k <;> simp [primFits, shapeOf] at hf
    cases k' <;> simp [sameKey] at h
    obtain ⟨rfl, rfl⟩ := h
    simp only [VRel] at hk hk'; subst hk hk'
    simp [Instr.sameNow]
  · cases k <;> simp [primFits, shapeOf] at hf
    cases k' <;> simp [sameKey] at h
    subst h
    simp only [VRel] at hk hk'; subst hk hk'
    simp [Instr.sameNow, beq_toListBytes]
  · cases k <;> simp [primFits, shapeOf] at hf
    cases k' <;> simp [sameKey] at h
    subst h
    simp only [VRel] at hk hk'; subst hk hk'
    simp [Instr.sameNow]

section
variable {G : Ghost} {t : TypeId} {i : TInfo} (hi : layoutOf P t = some i) {k : VVal} {v : Value} (hf : keyFits (layoutOf P) i k = true) (hk : VRel G k v) (w : World)
include hi hf hk

theorem keyFits_cases : (∃ d, P.underlying t = some d ∧ primFits (shapeOf P d) k = true) ∨ (∃ f, P.underlying t = some (.struct f)) := by
  obtain ⟨inf, d, h1, h2, h3, _, _, _, _⟩ := layout_info hi
  unfold keyFits at hf
  split at hf
  · split at hf
    · next fs hs =>
      obtain ⟨f, rfl, hfi⟩ := shape_struct (h3.symm.trans hs)
      exact .inr ⟨f, h2⟩
    · cases hf
  · rw [h3] at hf
    exact .inl ⟨d, h2, hf⟩

theorem findAsking_some : ∀ {l1 : List MapEntry} {r0 : MapEntry} {l2 : List MapEntry} (n : Nat), (∀ r ∈ l1, KeyNot G k r) → KeyYes G k r0 → (Instr.findAsking t v (l1 ++ r0 :: l2) n).run P w = .ok (some (n + l1.length, r0.val)) w
  | [], r0, l2, n, _, ⟨k', hr, hs⟩ => by
    have := key_equal hi hf hk hr hs 9998 w
    have e : (Op.equal t v r0.key).run P w = .ok true w := this
    simp only [List.nil_append, Instr.findAsking, Sem.run_bind, e, Result.andThen_ok, if_true, Sem.run_pure]
    rfl
  | r :: l1, r0, l2, n, h, hy => by
    obtain ⟨k', hr, hs⟩ := h r (by simp)
    have := key_equal hi hf hk hr hs 9998 w
    have e : (Op.equal t v r.key).run P w = .ok false w := this
    simp only [List.cons_append, Instr.findAsking, Sem.run_bind, e, Result.andThen_ok, Bool.false_eq_true, if_false]
    rw [findAsking_some (n + 1) (fun r hr => h r (by simp [hr])) hy]
    simp [Nat.add_comm, Nat.add_left_comm]

theorem findAsking_none : ∀ {l : List MapEntry} (n : Nat), (∀ r ∈ l, KeyNot G k r) → (Instr.findAsking t v l n).run P w = .ok none w
  | [], n, _ => rfl
  | r :: l, n, h => by
    obtain ⟨k', hr, hs⟩ := h r (by simp)
    have := key_equal hi hf hk hr hs 9998 w
    have e : (Op.equal t v r.key).run P w = .ok false w := this
    simp only [Instr.findAsking, Sem.run_bind, e, Result.andThen_ok, Bool.false_eq_true, if_false]
    exact findAsking_none (n + 1) (fun r hr => h r (by simp [hr]))

omit hi hf in
theorem findNow_some {d : TypeDesc} (hp : primFits (shapeOf P d) k = true) : ∀ {l1 : List MapEntry} {r0 : MapEntry} {l2 : List MapEntry} (n : Nat), (∀ r ∈ l1, KeyNot G k r) → KeyYes G k r0 → Instr.findNow d v (l1 ++ r0 :: l2) n = some (some (n + l1.length, r0.val))
  | [], r0, l2, n, _, ⟨k', hr, hs⟩ => by
    simp [Instr.findNow, sameNow_sound hp hk hr hs]
  | r :: l1, r0, l2, n, h, hy => by
    obtain ⟨k', hr, hs⟩ := h r (by simp)
    simp only [List.cons_append, Instr.findNow, sameNow_sound hp hk hr hs]
    rw [findNow_some hp (n + 1) (fun r hr => h r (by simp [hr])) hy]
    simp [Nat.add_comm, Nat.add_left_comm]

omit hi hf in
theorem findNow_none {d : TypeDesc} (hp : primFits (shapeOf P d) k = true) : ∀ {l : List MapEntry} (n : Nat), (∀ r ∈ l, KeyNot G k r) → Instr.findNow d v l n = some none
  | [], n, _ => rfl
  | r :: l, n, h => by
    obtain ⟨k', hr, hs⟩ := h r (by simp)
    simp only [Instr.findNow, sameNow_sound hp hk hr hs]
    exact findNow_none hp (n + 1) (fun r hr => h r (by simp [hr]))

theorem findKey_some {l1 : List MapEntry} {r0 : MapEntry} {l2 : List MapEntry} (h : ∀ r ∈ l1, KeyNot G k r) (hy : KeyYes G k r0) : (Instr.findKey t v (l1 ++ r0 :: l2)).run P w = .ok (some (l1.length, r0.val)) w := by
  unfold Instr.findKey
  rcases keyFits_cases hi hf hk with ⟨d, h2, hp⟩ | ⟨f, h2⟩
  · simp only [Sem.run_bind, run_underlying h2, Result.andThen_ok, findNow_some hk hp 0 h hy, Sem.run_pure, Nat.zero_add]
  · have : Instr.findNow (.struct f) v (l1 ++ r0 :: l2) 0 = none := by cases l1 <;> simp [Instr.findNow, Instr.sameNow]
    simp only [Sem.run_bind, run_underlying h2, Result.andThen_ok, this, findAsking_some hi hf hk w 0 h hy, Nat.zero_add]

theorem findKey_none {l : List MapEntry} (h : ∀ r ∈ l, KeyNot G k r) : (Instr.findKey t v l).run P w = .ok none w := by
  unfold Instr.findKey
  rcases keyFits_cases hi hf hk with ⟨d, h2, hp⟩ | ⟨f, h2⟩
  · simp only [Sem.run_bind, run_underlying h2, Result.andThen_ok, findNow_none hk hp 0 h, Sem.run_pure]
  · cases l with
    | nil => simp only [Sem.run_bind, run_underlying h2, Result.andThen_ok, Instr.findNow, Sem.run_pure]
    | cons r l =>
      have : Instr.findNow (.struct f) v (r :: l) 0 = none := by simp [Instr.findNow, Instr.sameNow]
      simp only [Sem.run_bind, run_underlying h2, Result.andThen_ok, this, findAsking_none hi hf hk w 0 h]
end

/-! ### Virtual search -/

/-- Where a key stands. -/
def vfindIdx (k : VVal) (es : List VEnt) (n : Nat := 0) : Option (Option Nat) :=
  match es with
  | [] => some none
  | e :: es => match sameKey k e.key with
    | some true => some (some n)
    | some false => vfindIdx k es (n + 1)
    | none => none

theorem vfindIdx_none {k : VVal} : ∀ {es : List VEnt} {n : Nat}, vfindIdx k es n = some none → ∀ e ∈ es, sameKey k e.key = some false
  | [], _, _, _, h => by cases h
  | e :: es, n, h, x, hx => by
    simp only [vfindIdx] at h
    split at h
    · cases h
    · next hs =>
      rcases List.mem_cons.1 hx with rfl | hx
      · exact hs
      · exact vfindIdx_none h x hx
    · cases h

theorem vfindIdx_some {k : VVal} : ∀ {es : List VEnt} {n j : Nat}, vfindIdx k es n = some (some j) → ∃ e, n ≤ j ∧ es[j - n]? = some e ∧ sameKey k e.key = some true ∧ ∀ x ∈ es.take (j - n), sameKey k x.key = some false
  | [], _, _, h => by simp [vfindIdx] at h
  | e :: es, n, j, h => by
    simp only [vfindIdx] at h
    split at h
    · next hs => simp at h; subst h; exact ⟨e, Nat.le_refl _, by simp, hs, by simp⟩
    · next hs =>
      obtain ⟨e', h1, h2, h3, h4⟩ := vfindIdx_some h
      refine ⟨e', by omega, ?_, h3, ?_⟩
      · rw [show j - n = (j - (n + 1)) + 1 from by omega]; simpa using h2
      · rw [show j - n = (j - (n + 1)) + 1 from by omega]
        intro x hx
        simp only [List.take_succ_cons, List.mem_cons] at hx
        rcases hx with rfl | hx
        · exact hs
        · exact h4 x hx
    · cases h

theorem EntsRel.mem {G : Ghost} : ∀ {es : List VEnt} {rs : List MapEntry} {r : MapEntry}, EntsRel G es rs → r ∈ rs → ∃ e ∈ es, EntRel G e r
  | [], _, _, h, hr => by simp only [EntsRel] at h; subst h; cases hr
  | e :: es, _, r, h, hr => by
    obtain ⟨y, ys, rfl, h1, h2⟩ := h
    rcases List.mem_cons.1 hr with rfl | hr
    · exact ⟨e, by simp, h1⟩
    · obtain ⟨e', he, hr'⟩ := h2.mem hr
      exact ⟨e', by simp [he], hr'⟩

theorem EntsRel.split {G : Ghost} : ∀ {es : List VEnt} {rs : List MapEntry} (j : Nat) {e : VEnt}, EntsRel G es rs → es[j]? = some e → ∃ r, rs[j]? = some r ∧ EntRel G e r ∧ EntsRel G (es.take j) (rs.take j) ∧ EntsRel G (es.drop (j + 1)) (rs.drop (j + 1))
  | [], _, _, _, _, h => by simp at h
  | x :: xs, _, 0, e, h, he => by
    obtain ⟨y, ys, rfl, h1, h2⟩ := h
    simp at he; subst he
    exact ⟨y, rfl, h1, rfl, by simpa using h2⟩
  | x :: xs, _, j + 1, e, h, he => by
    obtain ⟨y, ys, rfl, h1, h2⟩ := h
    obtain ⟨r, q1, q2, q3, q4⟩ := h2.split j (by simpa using he)
    exact ⟨r, by simpa using q1, q2, ⟨y, _, rfl, h1, q3⟩, by simpa using q4⟩

theorem EntsRel.append {G : Ghost} {es es' : List VEnt} {rs rs' : List MapEntry} : EntsRel G es rs → EntsRel G es' rs' → EntsRel G (es ++ es') (rs ++ rs') := by
  induction es generalizing rs with
  | nil => intro h k; simp only [EntsRel] at h; subst h; simpa using k
  | cons e es ih =>
    rintro ⟨y, ys, rfl, h1, h2⟩ k
    exact ⟨y, _, rfl, h1, ih h2 k⟩

theorem EntsRel.perm {G : Ghost} {xs ys : List VEnt} {rs : List MapEntry} (p : ys.Perm xs) : EntsRel G xs rs → ∃ rs', rs'.Perm rs ∧ EntsRel G ys rs' := by
  intro h
  induction p generalizing rs with
  | nil => exact ⟨rs, List.Perm.refl _, h⟩
  | cons x _ ih =>
    obtain ⟨y, zs, rfl, h1, h2⟩ := h
    obtain ⟨rs', p', h'⟩ := ih h2
    exact ⟨y :: rs', p'.cons _, y, rs', rfl, h1, h'⟩
  | swap x y l =>
    obtain ⟨a, as, rfl, h1, h2⟩ := h
    obtain ⟨b, bs, rfl, h3, h4⟩ := h2
    exact ⟨b :: a :: bs, List.Perm.swap _ _ _, b, _, rfl, h3, a, _, rfl, h1, h4⟩
  | trans _ _ ih1 ih2 =>
    obtain ⟨r1, p1, h1⟩ := ih2 h
    obtain ⟨r2, p2, h2⟩ := ih1 h1
    exact ⟨r2, p2.trans p1, h2⟩

/-- A key that a map has. -/
theorem MapRel.found {G : Ghost} {es : List VEnt} {res : Array MapEntry} {clock : Nat} (h : MapRel G es res clock) {k : VVal} {j : Nat} (hj : vfindIdx k es = some (some j)) :
    ∃ e r l1 l2, es[j]? = some e ∧ e.key = k ∧ EntRel G e r ∧ res.toList = l1 ++ r :: l2 ∧ (∀ x ∈ l1, KeyNot G k x) ∧ KeyYes G k r ∧
      ∃ t1 t2, EntsRel G (es.take j) t1 ∧ EntsRel G (es.drop (j + 1)) t2 ∧ (t1 ++ t2).Perm (l1 ++ l2) := by
  obtain ⟨l, h1, h2, h3, h4, h5⟩ := h
  obtain ⟨e, _, he, hs, hlt⟩ := vfindIdx_some hj
  simp only [Nat.sub_zero] at he hlt
  have hke := sameKey_eq hs
  obtain ⟨r, hr1, hr2, hr3, hr4⟩ := h1.split j he
  have hrm : r ∈ res.toList := h2.mem_iff.1 (List.mem_of_getElem? hr1)
  obtain ⟨l1, l2, hl⟩ := List.append_of_mem hrm
  have hlt' : j < l.length := by
    rcases Nat.lt_or_ge j l.length with q | q
    · exact q
    · rw [List.getElem?_eq_none q] at hr1; cases hr1
  have hsplit : l = l.take j ++ r :: l.drop (j + 1) := by
    have e1 : l[j]? = some l[j] := List.getElem?_eq_getElem hlt'
    rw [e1] at hr1
    cases hr1
    rw [← List.drop_eq_getElem_cons hlt', List.take_append_drop]
  have hp : (l.take j ++ l.drop (j + 1)).Perm (l1 ++ l2) := by
    have : (r :: (l.take j ++ l.drop (j + 1))).Perm (r :: (l1 ++ l2)) := by
      refine List.Perm.trans List.perm_middle.symm (List.Perm.trans ?_ List.perm_middle)
      rw [← hsplit, ← hl]; exact h2
    exact List.Perm.cons_inv this
  refine ⟨e, r, l1, l2, he, hke.symm, hr2, hl, fun x hx => ?_, ⟨e.key, hr2.1, hs⟩, _, _, hr3, hr4, hp⟩
  have hx' : x ∈ l.take j ++ l.drop (j + 1) := hp.mem_iff.2 (by simp [hx])
  have hpair : es = es.take j ++ e :: es.drop (j + 1) := by
    have hjl : j < es.length := by
      rcases Nat.lt_or_ge j es.length with q | q
      · exact q
      · rw [List.getElem?_eq_none q] at he; cases he
    have e1 : es[j]? = some es[j] := List.getElem?_eq_getElem hjl
    rw [e1] at he
    cases he
    rw [← List.drop_eq_getElem_cons hjl, List.take_append_drop]
  rw [hpair] at h3
  obtain ⟨_, q2, _⟩ := List.pairwise_append.1 h3
  rcases List.mem_append.1 hx' with hx' | hx'
  · obtain ⟨e', he', hr'⟩ := hr3.mem hx'
    exact ⟨e'.key, hr'.1, hlt e' he'⟩
  · obtain ⟨e', he', hr'⟩ := hr4.mem hx'
    refine ⟨e'.key, hr'.1, ?_⟩
    rw [hke]
    exact (List.pairwise_cons.1 q2).1 e' he'

/-- A key that a map has not. -/
theorem MapRel.lacks {G : Ghost} {es : List VEnt} {res : Array MapEntry} {clock : Nat} (h : MapRel G es res clock) {k : VVal} (hj : vfindIdx k es = some none) : ∀ r ∈ res.toList, KeyNot G k r := by
  obtain ⟨l, h1, h2, _⟩ := h
  intro r hr
  obtain ⟨e, he, hr'⟩ := h1.mem (h2.mem_iff.2 hr)
  exact ⟨e.key, hr'.1, vfindIdx_none hj e he⟩

theorem modify_split {α : Type} (f : α → α) : ∀ (l1 : List α) (r : α) (l2 : List α), (l1 ++ r :: l2).modify l1.length f = l1 ++ f r :: l2
  | [], r, l2 => by simp
  | x :: l1, r, l2 => by simp [modify_split f l1 r l2]

/-- A value put under a key that is there. -/
theorem MapRel.over {G : Ghost} {es : List VEnt} {res : Array MapEntry} {clock : Nat} (h : MapRel G es res clock) {k v : VVal} {kv vv : Value} {j : Nat} (hj : vfindIdx k es = some (some j)) (hk : VRel G k kv) (hv : VRel G v vv)
    {l1 l2 : List MapEntry} {r : MapEntry} (hl : res.toList = l1 ++ r :: l2) {t1 t2 : List MapEntry} (h1 : EntsRel G (es.take j) t1) (h2 : EntsRel G (es.drop (j + 1)) t2) (hp : (t1 ++ t2).Perm (l1 ++ l2)) :
    MapRel G (es.modify j fun e => { e with key := k, val := v }) (res.modify l1.length fun e => { e with key := kv, val := vv }) clock := by
  obtain ⟨l, g1, g2, g3, g4, g5⟩ := h
  obtain ⟨e, _, he, hs, hlt⟩ := vfindIdx_some hj
  simp only [Nat.sub_zero] at he hlt
  have hke := sameKey_eq hs
  have hjl : j < es.length := by
    rcases Nat.lt_or_ge j es.length with q | q
    · exact q
    · rw [List.getElem?_eq_none q] at he; cases he
  have hsplit : es = es.take j ++ e :: es.drop (j + 1) := by
    have e1 : es[j]? = some es[j] := List.getElem?_eq_getElem hjl
    rw [e1] at he
    cases he
    rw [← List.drop_eq_getElem_cons hjl, List.take_append_drop]
  have hlen : (es.take j).length = j := by simp; omega
  have hmod : (es.modify j fun e => { e with key := k, val := v }) = es.take j ++ { key := k, val := v } :: es.drop (j + 1) := by
    have := modify_split (fun e : VEnt => { e with key := k, val := v }) (es.take j) e (es.drop (j + 1))
    rw [hlen, ← hsplit] at this
    exact this
  have hrmod : (res.modify l1.length fun e => { e with key := kv, val := vv }).toList = l1 ++ { r with key := kv, val := vv } :: l2 := by
    rw [Array.toList_modify, hl, modify_split]
  refine ⟨t1 ++ { r with key := kv, val := vv } :: t2, ?_, ?_, ?_, ?_, ?_⟩
  · rw [hmod]; exact h1.append ⟨_, _, rfl, ⟨hk, hv⟩, h2⟩
  · rw [hrmod]
    exact List.perm_middle.trans ((hp.cons _).trans List.perm_middle.symm)
  · rw [hmod]
    rw [hsplit] at g3
    obtain ⟨q1, q2, q3⟩ := List.pairwise_append.1 g3
    refine List.pairwise_append.2 ⟨q1, ?_, ?_⟩
    · refine List.pairwise_cons.2 ⟨fun x hx => ?_, (List.pairwise_cons.1 q2).2⟩
      show sameKey k x.key = some false
      rw [hke]; exact (List.pairwise_cons.1 q2).1 x hx
    · intro x hx y hy
      rcases List.mem_cons.1 hy with rfl | hy
      · show sameKey x.key k = some false
        rw [hke]; exact q3 x hx e (by simp)
      · exact q3 x hx y (by simp [hy])
  · rw [hrmod]
    rw [hl] at g4
    simpa using g4
  · rw [hrmod]
    intro x hx
    rw [hl] at g5
    rcases List.mem_append.1 hx with hx | hx
    · exact g5 x (by simp [hx])
    · rcases List.mem_cons.1 hx with rfl | hx
      · exact g5 r (by simp)
      · exact g5 x (by simp [hx])

mutual
def keyLt : VVal → VVal → Bool
  | .int _ a, .int _ b => a < b
  | .str a, .str b => Op.bytesLess a b
  | .bool a, .bool b => !a && b
  | .agg xs, .agg ys => keysLt xs ys
  | _, _ => false
def keysLt : List VVal → List VVal → Bool
  | x :: xs, y :: ys => keyLt x y || (sameKey x y == some true && keysLt xs ys)
  | _, _ => false
end

/-- A new entry, where it belongs. -/
def vins (e : VEnt) : List VEnt → List VEnt
  | [] => [e]
  | x :: xs => if keyLt e.key x.key then e :: x :: xs else x :: vins e xs

theorem vins_perm (e : VEnt) : ∀ es, (vins e es).Perm (e :: es)
  | [] => List.Perm.refl _
  | x :: xs => by
    simp only [vins]
    split
    · exact List.Perm.refl _
    · exact ((vins_perm e xs).cons x).trans (List.Perm.swap _ _ _)

theorem MapRel.more {G : Ghost} {es : List VEnt} {res : Array MapEntry} {clock : Nat} (h : MapRel G es res clock) {k v : VVal} {kv vv : Value} (hj : vfindIdx k es = some none) (hk : VRel G k kv) (hv : VRel G v vv) :
    MapRel G (vins { key := k, val := v } es) (res.push { key := kv, val := vv, born := clock }) (clock + 1) := by
  obtain ⟨l, g1, g2, g3, g4, g5⟩ := h
  obtain ⟨l', p', h'⟩ := EntsRel.perm (G := G) (rs := { key := kv, val := vv, born := clock } :: l) (vins_perm { key := k, val := v } es) ⟨_, _, rfl, ⟨hk, hv⟩, g1⟩
  refine ⟨l', h', ?_, ?_, ?_, ?_⟩
  · rw [Array.toList_push]
    refine p'.trans ((g2.cons _).trans ?_)
    exact (List.perm_append_singleton _ _).symm
  · refine (List.Perm.pairwise_iff (fun {a b} (h : sameKey a.key b.key = some false) => by rw [sameKey_comm]; exact h) (vins_perm _ es)).2 ?_
    exact List.pairwise_cons.2 ⟨fun x hx => vfindIdx_none hj x hx, g3⟩
  · rw [Array.toList_push, List.map_append, List.map_singleton]
    refine List.nodup_append.2 ⟨g4, by simp, fun a ha b hb => ?_⟩
    simp at hb; subst hb
    obtain ⟨x, hx, rfl⟩ := List.mem_map.1 ha
    exact Nat.ne_of_lt (g5 x hx)
  · intro x hx
    rw [Array.toList_push] at hx
    rcases List.mem_append.1 hx with hx | hx
    · exact Nat.lt_succ_of_lt (g5 x hx)
    · simp at hx; subst hx; exact Nat.lt_succ_self _

end Go.Pv

/- Comparisons. -/
namespace Go.Pv
variable {P : Program}

theorem eqGuardType_fields : ∀ {fl : List Field} {fs : List FInfo} {n : Nat} {X : List VVal} (d : Nat), fieldInfos P fl = some fs → fieldsFit (layoutOf P) fs n X = true →
    (fl.any fun f => f.name != "_" && P.eqGuardType (d + 1) f.type) = false
  | [], _, _, _, _, _, _ => rfl
  | f :: fl, fs, n, X, d, hf, hfit => by
    simp only [fieldInfos] at hf
    split at hf
    case h_2 => cases hf
    rename_i fi fis hf1 hf2
    simp at hf; subst hf
    unfold fieldInfo at hf1
    split at hf1
    case h_2 => cases hf1
    rename_i inf fd g1 g2
    simp at hf1; subst hf1
    cases X with
    | nil => simp [fieldsFit] at hfit
    | cons x xs' =>
      simp only [fieldsFit, Bool.and_eq_true, beq_iff_eq, Bool.not_eq_true'] at hfit
      obtain ⟨⟨⟨⟨⟨c1, c2⟩, c3⟩, c4⟩, c5⟩, c6⟩ := hfit
      split at c5
      case h_2 => cases c5
      rename_i i hi
      obtain ⟨inf', d', _, e2, e3, _, _, _, _⟩ := layout_info hi
      rw [e3] at c5
      have hd : P.eqGuardType (d + 1) f.type = false := by
        unfold Program.eqGuardType
        rw [e2]
        rcases prim_desc c5 with ⟨k, rfl⟩ | rfl | rfl <;> rfl
      simp only [List.any_cons, hd, Bool.and_false, Bool.false_or]
      exact eqGuardType_fields d hf2 c6

theorem eq_ptr {w : World} {t e : TypeId} {inf : TypeInfo} (h2 : P.underlying t = some (.pointer e)) (e1 : P.info? e = some inf) (hs : inf.size ≠ 0) (b a1 a2 : Nat) (n : Nat) :
    (Op.equalIn (n + 1) t (.pointer (some ⟨b, a1, none⟩)) (.pointer (some ⟨b, a2, none⟩))).run P w = .ok (a1 == a2) w := by
  simp only [Op.equalIn, Sem.run_bind, run_underlying h2, Result.andThen_ok, run_sizeOf' e1, ne_eq, if_pos hs, sameAddr, beq_self_eq_true, if_true, Sem.run_pure]
  congr 1
  by_cases q : a1 = a2
  · subst q; simp
  · rw [beq_eq_false_iff_ne.2 q, beq_eq_false_iff_ne.2]; intro e; exact q (by simpa using congrArg Addr.off e)

theorem eq_slice {w : World} {t e : TypeId} (h2 : P.underlying t = some (.slice e)) (a1 a2 : Option Addr) (n1 n2 m1 m2 : Nat) (h : a1 = none ∨ a2 = none) (n : Nat) :
    (Op.equalIn (n + 1) t (.slice a1 n1 m1) (.slice a2 n2 m2)).run P w = .ok (a1.isNone && a2.isNone) w := by
  cases a1 with
  | none => simp only [Op.equalIn, Sem.run_bind, run_underlying h2, Result.andThen_ok, Sem.run_pure]; rfl
  | some a1 =>
    rcases h with h | h
    · cases h
    · subst h
      simp only [Op.equalIn, Sem.run_bind, run_underlying h2, Result.andThen_ok, Sem.run_pure]; rfl

theorem veq2_sound {M : VMem} {G : Ghost} {w : World} (hm : MemOk M G w) {op : BinOp} {t : TypeId} {i : TInfo} (hi : layoutOf P t = some i) {x y : Operand} {a c : VVal} {v u : Value} {b : Bool}
    (h : veq2 (layoutOf P) i a c = some b) (hx : VRel G a v) (hy : VRel G c u) :
    (eqGuard op t x y v u).run P w = .ok () w ∧ (Op.equal t v u).run P w = .ok b w ∧ (∀ k n, v ≠ .int k n) ∧ (∀ k n, v ≠ .float k n) ∧ (∀ k n m, v ≠ .complex k n m) ∧ (∀ s, v ≠ .string s) := by
  obtain ⟨inf, d, h1, h2, h3, h4, _, _, _⟩ := layout_info hi
  have sl : ∀ (a1 : Option Addr) (n m : Nat) (u : Value), (eqGuard op t x y (.slice a1 n m) u).run P w = .ok () w := fun a1 n m u => by
    rw [eqGuard_at_slice]; rfl
  unfold veq2 at h
  split at h
  · next e o a1 o' a2 hsh =>
    have := shape_ptr (h3.symm.trans hsh); subst this
    simp only [VRel] at hx hy
    obtain ⟨b1, hk1, rfl⟩ := hx
    obtain ⟨b2, hk2, rfl⟩ := hy
    split at h
    · next ei hei =>
      obtain ⟨einf, ed, e1, e2, _, _, e5, _, _⟩ := layout_info hei
      split at h
      · next hc =>
        obtain ⟨c1, rfl⟩ := hc
        have := hm.obI b1 b2 o hk1 hk2; subst this
        simp at h; subst h
        exact ⟨by rw [eqGuard_at_pointer]; rfl, eq_ptr h2 e1 (by rw [← e5]; exact c1) b1 a1 a2 9999, by simp, by simp, by simp, by simp⟩
      · cases h
    · cases h
  · next e _ _ _ _ hsh =>
    have := shape_slice (h3.symm.trans hsh); subst this
    simp only [VRel, CapOk] at hx hy
    obtain ⟨_, _, rfl, _, ⟨rfl, _⟩, _⟩ := hx
    obtain ⟨_, _, rfl, _, ⟨rfl, _⟩, _⟩ := hy
    simp at h; subst h
    exact ⟨sl _ _ _ _, eq_slice h2 _ _ _ _ _ _ (by simp) 9999, by simp, by simp, by simp, by simp⟩
  · next e _ _ _ _ _ _ hsh =>
    have := shape_slice (h3.symm.trans hsh); subst this
    simp only [VRel, CapOk] at hx hy
    obtain ⟨a1, _, rfl, _, _, hc⟩ := hx
    obtain ⟨_, _, rfl, _, ⟨rfl, _⟩, _⟩ := hy
    rcases hc with hc | ⟨_, _, _, _, rfl, _⟩
    · cases hc
    simp at h; subst h
    exact ⟨sl _ _ _ _, eq_slice h2 _ _ _ _ _ _ (by simp) 9999, by simp, by simp, by simp, by simp⟩
  · next e _ _ _ _ _ _ hsh =>
    have := shape_slice (h3.symm.trans hsh); subst this
    simp only [VRel, CapOk] at hx hy
    obtain ⟨_, _, rfl, _, ⟨rfl, _⟩, _⟩ := hx
    obtain ⟨a1, _, rfl, _, _, hc⟩ := hy
    rcases hc with hc | ⟨_, _, _, _, rfl, _⟩
    · cases hc
    simp at h; subst h
    exact ⟨sl _ _ _ _, eq_slice h2 _ _ _ _ _ _ (by simp) 9999, by simp, by simp, by simp, by simp⟩
  · next e _ _ _ _ _ _ hsh =>
    have := shape_slice (h3.symm.trans hsh); subst this
    simp only [VRel, CapOk] at hx hy
    obtain ⟨_, _, rfl⟩ := hx
    obtain ⟨_, _, rfl, _, ⟨rfl, _⟩, _⟩ := hy
    simp at h; subst h
    exact ⟨sl _ _ _ _, eq_slice h2 _ _ _ _ _ _ (by simp) 9999, by simp, by simp, by simp, by simp⟩
  · next fs xs ys hsh =>
    split at h
    · next hf =>
      simp only [Bool.and_eq_true] at hf
      have heq := key_equal hi hf.1 hx hy (r := b) (by simpa [sameKey] using h) 9998 w
      have hfx := hf.1
      unfold keyFits at hfx
      simp only [hsh, Bool.and_eq_true, Bool.not_eq_true'] at hfx
      obtain ⟨f, rfl, hfi⟩ := shape_struct (h3.symm.trans hsh)
      simp only [VRel] at hx hy
      obtain ⟨c1, rfl, _⟩ := hx
      obtain ⟨c2, rfl, _⟩ := hy
      refine ⟨?_, heq, by simp, by simp, by simp, by simp⟩
      refine run_eqGuard_agg w op t x y c1 c2 ?_
      have hd : P.depth = (2 * (P.types.size + Made.depth) + 1) + 1 := rfl
      rw [hd]
      unfold Program.eqGuardType
      rw [h2]
      simp only
      have := eqGuardType_fields (P := P) (2 * (P.types.size + Made.depth)) hfi hfx.2
      rw [← Array.any_toList]
      exact this
    · cases h
  · cases h

theorem vbin_sound {M : VMem} {G : Ghost} {w : World} (hm : MemOk M G w) {op : BinOp} {t : TypeId} {x y : Operand} {a b : VVal} {v u : Value} {r : VVal}
    (hx : VRel G a v) (hy : VRel G b u) (h : vbin (layoutOf P) op t (isConstNil x || isConstNil y) a b = some r) :
    Gives P G w (do eqGuard op t x y v u; binOp op t v u) r := by
  unfold vbin at h
  split at h
  · next k n k' m =>
    simp only [VRel] at hx hy; subst hx hy
    split at h
    · next e => subst e; exact vbinInt_sound h
    · split at h
      · exact vbinShift_sound (.inl rfl) h
      · exact vbinShift_sound (.inr rfl) h
      · cases h
  · simp only [VRel] at hx hy; subst hx hy
    exact vbinStr_sound h
  · split at h
    · next i hi =>
      simp only [Option.map_eq_some_iff] at h
      obtain ⟨q, hq, rfl⟩ := h
      refine .bool ?_
      cases h1 : veq i.shape (isConstNil x || isConstNil y) a b with
      | some q' =>
        rw [h1] at hq
        simp at hq; subst hq
        simp only [Sem.run_bind, veq_guard hi h1 hx hy, Result.andThen_ok]
        exact (binOp_of_equal (veq_sound hi h1 hx hy 9999) (veq_left h1 hx)).1
      | none =>
        rw [h1, Option.none_or] at hq
        obtain ⟨g1, g2, g3⟩ := veq2_sound hm (op := .eql) (x := x) (y := y) hi hq hx hy
        simp only [Sem.run_bind, g1, Result.andThen_ok]
        exact (binOp_of_equal g2 g3).1
    · next i hi =>
      simp only [Option.map_eq_some_iff] at h
      obtain ⟨q, hq, rfl⟩ := h
      refine .bool ?_
      cases h1 : veq i.shape (isConstNil x || isConstNil y) a b with
      | some q' =>
        rw [h1] at hq
        simp at hq; subst hq
        simp only [Sem.run_bind, veq_guard hi h1 hx hy, Result.andThen_ok]
        exact (binOp_of_equal (veq_sound hi h1 hx hy 9999) (veq_left h1 hx)).2
      | none =>
        rw [h1, Option.none_or] at hq
        obtain ⟨g1, g2, g3⟩ := veq2_sound hm (op := .neq) (x := x) (y := y) hi hq hx hy
        simp only [Sem.run_bind, g1, Result.andThen_ok]
        exact (binOp_of_equal g2 g3).2
    · cases h


end Go.Pv

/- The pure operations, sound: part 3. -/
namespace Go.Pv
variable {P : Program}

/-! ### Conversions -/
theorem bytesOf_rel {G : Ghost} : ∀ {cells : List VVal} {us : List Value} {l : List UInt8}, bytesOf cells = some l → VRels G cells us → ∃ ns : List Int, us = ns.map (Value.int .u8) ∧ ns.map (fun n => UInt8.ofNat n.toNat) = l
  | [], us, l, h, hr => by
    simp [bytesOf] at h; subst h
    simp only [VRels] at hr; subst hr
    exact ⟨[], rfl, rfl⟩
  | c :: cs, us, l, h, hr => by
    unfold bytesOf at h
    split at h
    · next heq => cases heq
    · next n vs heq =>
      cases heq
      split at h
      · next l' hl =>
        simp at h; subst h
        simp only [VRels, VRel] at hr
        obtain ⟨y, ys, rfl, rfl, hr⟩ := hr
        obtain ⟨ns, rfl, rfl⟩ := bytesOf_rel hl hr
        exact ⟨n :: ns, rfl, rfl⟩
      · cases h
    · cases h

theorem foldl_push_map (ns : List Int) : ∀ s : List UInt8, ns.foldl (fun (r : ByteArray) n => r.push (UInt8.ofNat n.toNat)) ⟨s.toArray⟩ = ⟨(s ++ ns.map fun n => UInt8.ofNat n.toNat).toArray⟩ := by
  induction ns with
  | nil => intro s; simp
  | cons n ns ih =>
    intro s
    simp only [List.foldl_cons, List.map_cons]
    rw [show (ByteArray.push ⟨s.toArray⟩ (UInt8.ofNat n.toNat)) = ⟨(s ++ [UInt8.ofNat n.toNat]).toArray⟩ from by simp [ByteArray.push]]
    rw [ih]
    simp

/-- The cells of a slice that lies as a row. -/
theorem slice_cells {M : VMem} {G : Ghost} {w : World} (hm : MemOk M G w) {cells : List VVal} {b off : Nat} {rc : List Value} {total : Nat} (hk : G.kind b = .row rc total) (hlt : off + cells.length ≤ rc.length)
    (hrs : VRels G cells ((rc.drop off).take cells.length)) : ∃ us, us = (rc.drop off).take cells.length ∧ VRels G cells us ∧ Ones us ∧ us.length = cells.length ∧ (∀ j u, us[j]? = some u → w.cell? ⟨b, off + j, none⟩ = some u) ∧
      (∀ n, n = cells.length → (loadCells ⟨b, off, none⟩ n).run P w = .ok us.toArray w) := by
  obtain ⟨c, E, fr, hw, hsz, hpre, hfr, hon⟩ := hm.rows b rc total hk
  have hc : ∀ j u, ((rc.drop off).take cells.length)[j]? = some u → w.cell? ⟨b, off + j, none⟩ = some u := by
    intro j u e
    simp only [World.cell?, hw]
    rw [List.getElem?_take] at e
    split at e
    · rw [List.getElem?_drop] at e
      obtain ⟨tl, htl⟩ := hpre
      have hlt : off + j < rc.length := by
        rcases Nat.lt_or_ge (off + j) rc.length with q | q
        · exact q
        · rw [List.getElem?_eq_none q] at e; cases e
      have : c.toList[off + j]? = some u := by rw [← htl, List.getElem?_append_left hlt, e]
      simpa using this
    · cases e
  have hlen : ((rc.drop off).take cells.length).length = cells.length := by simp; omega
  refine ⟨_, rfl, hrs, (hon.drop _).take _, hlen, hc, ?_⟩
  intro n hn
  subst hn
  have := run_loadCells_list (P := P) w ⟨b, off, none⟩ _ (fun j u e => by rw [addr_add]; exact hc j u e)
  rwa [hlen] at this

theorem vconvert_sound {M : VMem} {G : Ghost} {w : World} (hm : MemOk M G w) {s d : TypeId} {x r : VVal} {v : Value} (hx : VRel G x v) (h : vconvert (layoutOf P) M.ob M.ty s d x = some r) :
    Gives P G w (convert s d v) r := by
  unfold vconvert at h
  split at h
  · next si di k n hs hd =>
    obtain ⟨sinf, sd, g1, g2, g3, _, _, _, _⟩ := layout_info hs
    obtain ⟨dinf, dd, k1, k2, k3, _, _, _, _⟩ := layout_info hd
    simp only [VRel] at hx; subst hx
    split at h
    · next k' hk =>
      have := shape_int (k3.symm.trans hk); subst this
      simp at h; subst h
      refine .int ?_
      simp [convert, run_underlying g2, run_underlying k2, Conv.intToInt]
    · cases h
  · next si di l hs hd =>
    obtain ⟨sinf, sd, g1, g2, g3, _, _, _, _⟩ := layout_info hs
    obtain ⟨dinf, dd, k1, k2, k3, _, _, _, _⟩ := layout_info hd
    simp only [VRel] at hx; subst hx
    split at h
    · next hk =>
      have := shape_str (k3.symm.trans hk); subst this
      simp at h; subst h
      refine .str ?_
      simp [convert, run_underlying g2, run_underlying k2]
    · cases h
  · next si di cells len cap hs hd =>
    obtain ⟨sinf, sd, g1, g2, g3, _, _, _, _⟩ := layout_info hs
    obtain ⟨dinf, dd, k1, k2, k3, _, _, _, _⟩ := layout_info hd
    split at h
    · next e hsh hdh =>
      have := shape_str (k3.symm.trans hdh); subst this
      have := shape_slice (g3.symm.trans hsh); subst this
      split at h
      · next ei l he hl =>
        split at h
        · next hb =>
          obtain ⟨einf, ed, m1, m2, m3, _, _, _, _⟩ := layout_info he
          have := shape_int (m3.symm.trans hb.1); subst this
          simp at h; subst h
          refine .str ?_
          simp only [VRel] at hx
          obtain ⟨a, rcap, rfl, _, _, hc⟩ := hx
          rw [run_convert_bytes_string w s d e a len rcap g2 m2 k2]
          rcases hc with hc | ⟨b, off, rc, total, rfl, hk, hlt, hrs⟩
          · subst hc
            simp [bytesOf] at hl; subst hl
            simp at hb
            have hlen : len = 0 := hb.2.symm
            subst hlen
            cases a with
            | none => rfl
            | some a =>
              rw [run_bytesToString w a 0 rcap [] (by simp [loadCells, loadCellsFrom])]
              rfl
          · obtain ⟨us, _, hr, ho, hul, _, hload⟩ := slice_cells (P := P) hm hk hlt hrs
            obtain ⟨ns, rfl, rfl⟩ := bytesOf_rel hl hr
            have hlen : len = cells.length := by have := hb.2; simp at this hul; omega
            rw [run_bytesToString w _ len rcap ns (hload len hlen)]
            have := foldl_push_map ns []
            simp only [List.nil_append] at this
            rw [← this]
            rfl
        · cases h
      · cases h
    · cases h
  · next si di hs hd =>
    obtain ⟨sinf, sd, g1, g2, g3, _, _, _, _⟩ := layout_info hs
    obtain ⟨dinf, dd, k1, k2, k3, _, _, _, _⟩ := layout_info hd
    simp only [VRel] at hx; subst hx
    split at h
    · next e hsh hdh =>
      have := shape_ptr (g3.symm.trans hsh); subst this
      have := shape_uptr (k3.symm.trans hdh); subst this
      simp at h; subst h
      exact ⟨.pointer none, by simp [convert, run_underlying g2, run_underlying k2, Conv.unsafePointer], by simp [VRel]⟩
    · next e hsh hdh =>
      have := shape_uptr (g3.symm.trans hsh); subst this
      have := shape_ptr (k3.symm.trans hdh); subst this
      simp at h; subst h
      exact ⟨.pointer none, by simp [convert, run_underlying g2, run_underlying k2, Conv.unsafePointer], by simp [VRel]⟩
    · cases h
  · next si di o off hs hd =>
    obtain ⟨sinf, sd, g1, g2, g3, _, _, _, _⟩ := layout_info hs
    obtain ⟨dinf, dd, k1, k2, k3, _, _, _, _⟩ := layout_info hd
    have hxr := hx
    simp only [VRel] at hx
    obtain ⟨b, hk, rfl⟩ := hx
    have hcell : ∀ vs, M.ob o = some (.cells vs) → ∃ cs E, w.heap[b]? = some (.cells cs E (0, 0)) ∧ cs.size = vs.length := by
      intro vs ho
      obtain ⟨b', cs, E, hk', hw, hr, _⟩ := hm.ob o _ ho
      have := hm.obI b b' o hk hk'; subst this
      exact ⟨cs, E, hw, by have := hr.length; simp at this; omega⟩
    split at h
    · next e hsh hdh =>
      have := shape_ptr (g3.symm.trans hsh); subst this
      have := shape_uptr (k3.symm.trans hdh); subst this
      split at h
      · next ei vs hei hob =>
        split at h
        · next hc =>
          obtain ⟨einf, ed, m1, m2, _, _, m5, _, _⟩ := layout_info hei
          simp at h; subst h
          obtain ⟨cs, E, hw, hsz⟩ := hcell vs hob
          have hshape : w.shape? b = some (E, cs.size) := by simp [World.shape?, hw]
          refine ⟨_, ?_, hxr⟩
          have hsz0 : einf.size ≠ 0 := by rw [← m5]; exact hc.1
          have hoff : off < cs.size := by omega
          simp only [convert, Sem.run_bind, run_underlying g2, run_underlying k2, Result.andThen_ok, Conv.unsafePointer, Conv.seenAt, viewAt, run_shape, hshape, Option.isSome_some, if_true, Sem.run_pure, cellsIn, run_sizeOf' m1]
          have : (decide (einf.size = 0) || (decide (off ≥ cs.size) && true)) = false := by simp; omega
          simp
          intro q; omega
        · cases h
      · cases h
    · next u hsh hdh =>
      have := shape_uptr (g3.symm.trans hsh); subst this
      have := shape_ptr (k3.symm.trans hdh); subst this
      split at h
      · next ui vs e hui hob hty =>
        split at h
        · next ei hei =>
          split at h
          · next hc =>
            obtain ⟨uinf, ud, m1, m2, _, _, m5, _, _⟩ := layout_info hui
            obtain ⟨einf, ed, n1, n2, _, _, n5, _, _⟩ := layout_info hei
            simp at h; subst h
            obtain ⟨cs, E, hw, hsz⟩ := hcell vs hob
            have hE : E = e := by
              obtain ⟨_, q, _⟩ := hm.ty o e hty
              obtain ⟨c, fr, hq⟩ := q b hk
              rw [hw] at hq; cases hq; rfl
            subst hE
            have hshape : w.shape? b = some (E, cs.size) := by simp [World.shape?, hw]
            have hlies := hc.2
            rw [(layout_more hui).2] at hlies
            have hcells : P.cellsOf E = ei.size := by simp [Program.cellsOf, n1, n5]
            have hva : (variablesAt ⟨b, off, none⟩ u 1).run P w = .ok true w := by
              simp only [variablesAt, Sem.run_bind, run_program, run_shape, hshape, Result.andThen_ok, Sem.run_pure, hcells, hsz]
              exact congrArg (fun q => Result.ok q w) hlies
            refine ⟨_, ?_, hxr⟩
            have hsz0 : uinf.size ≠ 0 := by rw [← m5]; exact hc.1
            simp only [convert, Sem.run_bind, run_underlying g2, run_underlying k2, Result.andThen_ok, Conv.unsafePointer, Conv.seenAt, viewAt, run_shape, hshape, Option.isSome_some, if_true, Sem.run_pure, run_sizeOf' m1, hva]
            simp
          · cases h
        · cases h
      · cases h
    · cases h
  · cases h

/-! ### Slice expressions -/
def BRel (v : Option Value) (n : Option Int) : Prop := match v, n with
  | none, none => True
  | some v, some n => ∃ k, v = .int k n
  | _, _ => False

theorem bound_rel {st : VSt} {G : Ghost} {a : Act} (h : ActRel st G a) {x : Option Operand} {n : Option Int} (hb : st.bound? x = some n) : BRel (x.map a.eval) n := by
  unfold VSt.bound? at hb
  split at hb
  · simp at hb; subst hb; simp [BRel]
  · next x =>
    split at hb
    · next k m he =>
      simp at hb; subst hb
      have := h.ev x
      rw [he] at this
      simp only [VRel] at this
      simp [BRel, this]
    · cases hb

theorem run_sb {w : World} {k : IntKind} {i : Int} {y : Nat} {code : BoundsCode} (h0 : 0 ≤ i) (h1 : i ≤ (y : Int)) : (Instr.sliceBound (.int k i) y code).run P w = .ok i.toNat w := by
  simp [Instr.sliceBound, asIntOf, h0, h1]

theorem run_bounds {w : World} (isSlice : Bool) (len cap : Nat) {lo hi mx : Option Value} {l h m : Option Int} (h1 : BRel lo l) (h2 : BRel hi h) (h3 : BRel mx m)
    (b1 : 0 ≤ l.getD 0) (b2 : l.getD 0 ≤ h.getD len) (b3 : h.getD len ≤ m.getD cap) (b4 : m.getD cap ≤ cap) (b5 : m.isSome → h.isSome) :
    (Instr.sliceBounds isSlice len cap lo hi mx).run P w = .ok ((l.getD 0).toNat, (h.getD len).toNat, (m.getD cap).toNat) w := by
  cases mx <;> cases m <;> simp only [BRel] at h3
  all_goals (cases hi <;> cases h <;> simp only [BRel] at h2)
  all_goals (cases lo <;> cases l <;> simp only [BRel] at h1)
  all_goals (try (obtain ⟨k1, rfl⟩ := h1))
  all_goals (try (obtain ⟨k2, rfl⟩ := h2))
  all_goals (try (obtain ⟨k3, rfl⟩ := h3))
  all_goals (simp only [Option.getD_some, Option.getD_none, Option.isSome_some, Option.isSome_none] at b1 b2 b3 b4 b5 ⊢)
  all_goals first
    | (simp at b5; done)
    | skip
  all_goals (simp (disch := omega) only [Instr.sliceBounds, Sem.run_bind, run_sb, Sem.run_pure, Result.andThen_ok])
  all_goals (try rfl)

theorem vslice_sound {G : Ghost} {w : World} {t : TypeId} {x r : VVal} {v : Value} {lo hi mx : Option Value} {l h m : Option Int}
    (hx : VRel G x v) (h1 : BRel lo l) (h2 : BRel hi h) (h3 : BRel mx m) (hr : vsliceOp (layoutOf P) t x l h m = some r) : Gives P G w (Instr.sliceAt t v lo hi mx) r := by
  unfold vsliceOp at hr
  split at hr
  · next i s hi =>
    obtain ⟨inf, d, g1, g2, g3, _, _, _, _⟩ := layout_info hi
    simp only at hr
    split at hr
    · next hb =>
      obtain ⟨b0, rfl, b1, b2, b3⟩ := hb
      have := shape_str (g3.symm.trans b0); subst this
      simp only [VRel] at hx; subst hx
      simp at hr; subst hr
      refine .str ?_
      have hsz : (⟨s.toArray⟩ : ByteArray).size = s.length := rfl
      simp only [Instr.sliceAt, Sem.run_bind, run_underlying g2, Result.andThen_ok]
      simp only [Instr.slice, Sem.run_bind, run_underlying g2, Result.andThen_ok, hsz]
      cases mx with
      | some _ => simp [BRel] at h3
      | none =>
        simp only [Option.isSome_none, Bool.false_eq_true, if_false, Sem.run_bind]
        rw [run_bounds (P := P) false s.length s.length h1 h2 (m := none) (mx := none) (by simp [BRel]) b1 b2 (by simpa using b3) (by simp) (by simp)]
        simp only [Result.andThen_ok, ByteArray.extract_mk, Sem.run_pure]
    · cases hr
  · next i cells len cap hi =>
    obtain ⟨inf, d, g1, g2, g3, _, _, _, _⟩ := layout_info hi
    split at hr
    · next e hs =>
      have := shape_slice (g3.symm.trans hs); subst this
      split at hr
      · next ei he =>
        obtain ⟨einf, ed, k1, k2, _, _, k4, _, _⟩ := layout_info he
        simp only at hr
        split at hr
        · next hb =>
          obtain ⟨b1, b2, b3⟩ := hb
          simp only [VRel] at hx
          obtain ⟨a, rcap, rfl, hlc, hcap, hc⟩ := hx
          have hrow : ∀ (hh : Nat) (cells' : List VVal), cells' = (cells.drop ((l.getD 0).toNat * ei.size)).take (hh * ei.size) → ∀ mm : Nat,
              ((cells' = [] ∨ ∃ b off rc total, (if mm = (l.getD 0).toNat then a else a.map (·.add ((l.getD 0).toNat * ei.size))) = some ⟨b, off, none⟩ ∧ G.kind b = .row rc total ∧ off + cells'.length ≤ rc.length ∧ VRels G cells' ((rc.drop off).take cells'.length)) ∨ (mm = (l.getD 0).toNat ∧ cells' ≠ [])) := by
            intro hh cells' hcells' mm
            by_cases hmm : mm = (l.getD 0).toNat
            · by_cases hz : cells' = []
              · exact .inl (.inl hz)
              · exact .inr ⟨hmm, hz⟩
            · left
              rcases hc with hc | ⟨b, off, rc, total, rfl, hk, hlt, hrs⟩
              · left; rw [hcells', hc]; simp
              · by_cases hz : cells' = []
                · exact .inl hz
                · right
                  have hlen : cells'.length = min (hh * ei.size) (cells.length - (l.getD 0).toNat * ei.size) := by rw [hcells']; simp
                  have hpos : cells'.length ≠ 0 := fun q => hz (List.eq_nil_of_length_eq_zero q)
                  refine ⟨b, off + (l.getD 0).toNat * ei.size, rc, total, ?_, hk, by omega, ?_⟩
                  · rw [if_neg hmm]; simp [addr_add]
                  · have := (hrs.drop ((l.getD 0).toNat * ei.size)).take (hh * ei.size)
                    rw [← hcells'] at this
                    rw [List.drop_take, List.drop_drop, List.take_take] at this
                    have e2 : min (hh * ei.size) (cells.length - (l.getD 0).toNat * ei.size) = cells'.length := hlen.symm
                    rw [e2] at this
                    exact this
          have hdef : ∀ mm : Nat, (h.getD len).toNat ≤ mm → mm = (l.getD 0).toNat → (cells.drop ((l.getD 0).toNat * ei.size)).take (((h.getD len).toNat - (l.getD 0).toNat) * ei.size) = [] := by
            intro mm q1 q2
            have : (h.getD len).toNat - (l.getD 0).toNat = 0 := by omega
            rw [this]; simp
          cases m with
          | none =>
            simp at hr; subst hr
            cases mx with
            | some _ => simp [BRel] at h3
            | none =>
              refine ⟨.slice (if rcap = (l.getD 0).toNat then a else a.map (·.add ((l.getD 0).toNat * ei.size))) ((h.getD len).toNat - (l.getD 0).toNat) (rcap - (l.getD 0).toNat), ?_, ?_⟩
              · simp only [Instr.sliceAt, Sem.run_bind, run_underlying g2, Result.andThen_ok]
                simp only [Instr.slice, Sem.run_bind, run_underlying g2, Result.andThen_ok]
                rw [run_bounds (P := P) true len rcap h1 h2 (m := none) (mx := none) (by simp [BRel]) b1 b2 (by simp; omega) (by simp) (by simp)]
                simp [run_sizeOf' k1, k4]
              · simp only [VRel]
                refine ⟨_, _, rfl, by omega, ?_, ?_⟩
                · cases cap with
                  | any => trivial
                  | nil =>
                    simp only [CapOk] at hcap
                    obtain ⟨rfl, rfl⟩ := hcap
                    simp only
                    split
                    · exact ⟨by simp, by omega⟩
                    · trivial
                  | exact c =>
                    simp only [CapOk] at hcap ⊢
                    rw [hcap]
                  | tok tk sz =>
                    simp only
                    split
                    · next hl0 =>
                      obtain ⟨q1, q2⟩ := hcap
                      refine ⟨q1, fun b mf hf => ?_⟩
                      obtain ⟨q3, q4⟩ := q2 b mf hf
                      have hle : ((cells.drop ((l.getD 0).toNat * ei.size)).take (((h.getD len).toNat - (l.getD 0).toNat) * ei.size)).length ≤ cells.length := by simp; omega
                      refine ⟨by omega, fun hq => ?_⟩
                      obtain ⟨ha, rc, total, hk, ht⟩ := q4 (by omega)
                      refine ⟨?_, rc, total, hk, ?_⟩
                      · rw [hl0]; simp [ha, addr_add]
                      · exact Nat.le_trans (Nat.mul_le_mul_right _ (Nat.sub_le _ _)) ht
                    · trivial
                · rcases hrow _ _ rfl rcap with q | ⟨q1, q2⟩
                  · exact q
                  · exact .inl (hdef rcap (by omega) q1)
          | some mv =>
            simp only at hr
            split at hr
            · next hb2 =>
              obtain ⟨b4, b5, b6⟩ := hb2
              simp at hr; subst hr
              cases mx with
              | none => simp [BRel] at h3
              | some mxv =>
                refine ⟨.slice (if mv.toNat = (l.getD 0).toNat then a else a.map (·.add ((l.getD 0).toNat * ei.size))) ((h.getD len).toNat - (l.getD 0).toNat) (mv.toNat - (l.getD 0).toNat), ?_, ?_⟩
                · simp only [Instr.sliceAt, Sem.run_bind, run_underlying g2, Result.andThen_ok]
                  simp only [Instr.slice, Sem.run_bind, run_underlying g2, Result.andThen_ok]
                  rw [run_bounds (P := P) true len rcap h1 h2 h3 b1 b2 (by simpa using b4) (by simp; omega) (fun _ => b6)]
                  simp [run_sizeOf' k1, k4]
                · simp only [VRel]
                  refine ⟨_, _, rfl, by omega, rfl, ?_⟩
                  rcases hrow _ _ rfl mv.toNat with q | ⟨q1, q2⟩
                  · exact q
                  · exact .inl (hdef mv.toNat (by omega) q1)
            · cases hr
        · cases hr
      · cases hr
    · cases hr
  · cases hr

end Go.Pv

/- The pure operations, sound: part 4: literals, look-ups; all together. -/
namespace Go.Pv
variable {P : Program}

theorem VRel.cells {G : Ghost} {x : VVal} {v : Value} {cs : List VVal} (hx : VRel G x v) (h : vcells x = some cs) : VRels G cs v.cells.toList ∧ Ones v.cells.toList := by
  have one : ∀ v : Value, v.oneCell' = true → v.cells = #[v] := fun v h => by cases v <;> first | rfl | (simp [Value.oneCell'] at h)
  have fin : ∀ v : Value, VRel G x v → v.oneCell' = true → cs = [x] → VRels G cs v.cells.toList ∧ Ones v.cells.toList := fun v hx hv e => by
    subst e
    rw [one v hv]
    exact ⟨by simp only [VRels]; exact ⟨v, [], rfl, hx, rfl⟩, Ones.cons hv Ones.nil⟩
  cases x
  case agg c =>
    simp [vcells] at h; subst h
    simp only [VRel] at hx
    obtain ⟨c', rfl, hr, ho⟩ := hx
    exact ⟨hr, ho⟩
  case undef => simp [vcells] at h
  case tuple => simp [vcells] at h
  all_goals (simp [vcells] at h; refine fin v hx ?_ h.symm)
  case bool => simp only [VRel] at hx; subst hx; rfl
  case int => simp only [VRel] at hx; subst hx; rfl
  case str => simp only [VRel] at hx; subst hx; rfl
  case nilp => simp only [VRel] at hx; subst hx; rfl
  case ptr => simp only [VRel] at hx; obtain ⟨_, _, rfl⟩ := hx; rfl
  case lptr => simp only [VRel] at hx; obtain ⟨_, _, rfl⟩ := hx; rfl
  case iptr => simp only [VRel] at hx; obtain ⟨_, _, _, _, _, rfl, _⟩ := hx; rfl
  case slice => simp only [VRel] at hx; obtain ⟨_, _, rfl, _⟩ := hx; rfl
  case mslice => simp only [VRel] at hx; obtain ⟨_, _, rfl⟩ := hx; rfl
  case map o =>
    cases o with
    | none => simp only [VRel] at hx; subst hx; rfl
    | some o => simp only [VRel] at hx; obtain ⟨_, _, rfl⟩ := hx; rfl
  case func => simp only [VRel] at hx; obtain ⟨_, _, rfl, _⟩ := hx; rfl
  case nilFunc => simp only [VRel] at hx; subst hx; rfl
  case iface => simp only [VRel] at hx; obtain ⟨_, rfl, _⟩ := hx; rfl
  case nilIface => simp only [VRel] at hx; subst hx; rfl
  case yieldv => simp only [VRel] at hx; obtain ⟨_, _, rfl⟩ := hx; rfl
  case rslice => simp only [VRel] at hx; obtain ⟨_, _, rfl, _⟩ := hx; rfl
  case gptr => simp only [VRel] at hx; obtain ⟨_, rfl, _⟩ := hx; rfl
  case fptr => simp only [VRel] at hx; obtain ⟨_, _, _, _, _, rfl, _⟩ := hx; rfl

def PartsRel (G : Ghost) : List (Nat × VVal) → List (Nat × Value) → Prop
  | [], l => l = []
  | (i, x) :: xs, l => ∃ y ys, l = (i, y) :: ys ∧ VRel G x y ∧ PartsRel G xs ys

theorem ActRel.parts {st : VSt} {G : Ghost} {a : Act} (h : ActRel st G a) : ∀ l : List (Nat × Operand), PartsRel G (st.parts l) (l.map fun (i, x) => (i, a.eval x))
  | [] => rfl
  | (_, x) :: l => ⟨_, _, rfl, h.ev x, h.parts l⟩

theorem foldl_set_list (off : Nat) (l : List Value) : ∀ (k : Nat) (arr : Array Value), off + k + l.length ≤ arr.size →
    ((l.zipIdx k).foldl (fun (cs : Array Value) (p : Value × Nat) => cs.setIfInBounds (off + p.2) p.1) arr).toList = splice arr.toList (off + k) l := by
  induction l with
  | nil => intro k arr _; simp [splice]
  | cons v l ih =>
    intro k arr h
    simp only [List.length_cons] at h
    simp only [List.zipIdx_cons, List.foldl_cons]
    rw [ih (k + 1) _ (by simp; omega)]
    simp only [splice, Array.toList_setIfInBounds, List.length_cons]
    rw [List.take_set, List.drop_set, if_pos (by omega)]
    have hm : min (off + k) arr.size = off + k := by omega
    have e1 : ((arr.toList.take (off + (k + 1))).set (off + k) v) = arr.toList.take (off + k) ++ [v] := by
      rw [show off + (k + 1) = off + k + 1 from by omega, List.take_succ_eq_append_getElem (by simp; omega)]
      rw [List.set_append_right _ _ (by simp; omega)]
      simp [hm]
    rw [e1]
    simp only [List.append_assoc, List.cons_append, List.nil_append]
    congr 4
    omega

theorem vfill_sound {G : Ghost} {place : Nat → Option (Nat × Nat)} : ∀ {parts : List (Nat × VVal)} {ps : List (Nat × Value)} {cells r : List VVal} {us : Array Value},
    PartsRel G parts ps → VRels G cells us.toList → Ones us.toList → vfill place cells parts = some r → ∃ us', Instr.fill place us ps = some us' ∧ VRels G r us'.toList ∧ Ones us'.toList
  | [], ps, cells, r, us, hp, hc, ho, h => by
    simp only [PartsRel] at hp; subst hp
    simp [vfill] at h; subst h
    exact ⟨us, rfl, hc, ho⟩
  | (i, x) :: parts, ps, cells, r, us, hp, hc, ho, h => by
    simp only [PartsRel] at hp
    obtain ⟨y, ys, rfl, hx, hp⟩ := hp
    simp only [vfill] at h
    split at h
    · next off size cs h1 h2 =>
      obtain ⟨hcs, hco⟩ := hx.cells h2
      split at h
      · next h3 =>
        unfold splice' at h
        split at h
        · next cells' h4 =>
          split at h4
          · next h5 =>
            simp at h4; subst h4
            have l1 := hc.length
            have l2 := hcs.length
            simp only [Array.length_toList] at l1 l2
            have l3 : y.cells.toList.length = y.cells.size := by simp
            have hset : (y.cells.zipIdx.foldl (fun (cs : Array Value) (p : Value × Nat) => cs.setIfInBounds (off + p.2) p.1) us).toList = splice us.toList off y.cells.toList := by
              have := foldl_set_list off y.cells.toList 0 us (by omega)
              rw [Nat.add_zero] at this
              rw [← this, ← Array.foldl_toList, Array.toList_zipIdx]
            simp only [Instr.fill, h1]
            rw [if_neg (by simp; omega)]
            refine vfill_sound hp ?_ ?_ h
            · rw [hset]; exact hc.splice off hcs
            · rw [hset]; exact ho.splice off hco
          · cases h4
        · cases h
      · cases h
    · cases h

theorem run_mapM_places {w : World} : ∀ {fs : List Field} {l : List FInfo}, fieldInfos P fs = some l →
    (fs.mapM fun f => do pure (f.offset, ← sizeOf f.type) : Sem (List (Nat × Nat))).run P w = .ok (l.map fun i => (i.off, i.size)) w
  | [], l, h => by simp [fieldInfos] at h; subst h; rfl
  | f :: fs, l, h => by
    simp only [fieldInfos] at h
    split at h
    · next i is h1 h2 =>
      simp at h; subst h
      unfold fieldInfo at h1
      split at h1
      · next inf d g1 g2 =>
        simp at h1; subst h1
        simp only [List.mapM_cons, Sem.run_bind, run_sizeOf' g1, Result.andThen_ok, Sem.run_pure, run_mapM_places h2, List.map_cons]
      · cases h1
    · cases h

theorem run_mapM_places_arr {w : World} {fs : Array Field} {l : List FInfo} (h : fieldInfos P fs.toList = some l) :
    (fs.mapM fun f => do pure (f.offset, ← sizeOf f.type) : Sem (Array (Nat × Nat))).run P w = .ok (l.map fun i => (i.off, i.size)).toArray w := by
  rw [Array.mapM_eq_mapM_toList]
  simp only [Sem.run_map, run_mapM_places h, Result.andThen_ok]

theorem vbuild_sound {st : VSt} {G : Ghost} {w : World} {a : Act} (ha : ActRel st G a) {t : TypeId} {parts : Array (Nat × Operand)} {r : VVal} (h : vbuild (layoutOf P) t (st.parts parts.toList) = some r) :
    Gives P G w (Instr.build t (parts.map fun (i, x) => (i, a.eval x))) r := by
  unfold vbuild at h
  split at h
  · next i hi =>
    obtain ⟨inf, d, h1, h2, h3, _, _, _, hz⟩ := layout_info hi
    have hpr : PartsRel G (st.parts parts.toList) (parts.map fun (i, x) => (i, a.eval x)).toList := by rw [Array.toList_map]; exact ha.parts _
    split at h
    · next zs fs hzz hs =>
      obtain ⟨fa, rfl, hfs⟩ := shape_struct (h3.symm.trans hs)
      rw [hz, Option.map_eq_some_iff] at hzz
      obtain ⟨z, hz1, hz2⟩ := hzz
      have hzr := ofConst_rel G z
      rw [hz2] at hzr
      simp only [VRel] at hzr
      obtain ⟨c, rfl, hcr, hco⟩ := hzr
      simp only [Option.map_eq_some_iff] at h
      obtain ⟨cs, h, rfl⟩ := h
      obtain ⟨us', hf, hr, ho⟩ := vfill_sound hpr hcr hco h
      refine ⟨.agg us', ?_, by simp only [VRel]; exact ⟨us', rfl, hr, ho⟩⟩
      simp only [Instr.build, Sem.run_bind, run_zeroValue h1 hz1, Result.andThen_ok, run_underlying h2, run_mapM_places_arr hfs, Value.cells]
      have e : (fun k : Nat => ((fs.map fun i => (i.off, i.size)).toArray)[k]?) = fun k : Nat => (fs[k]?).map fun (f : FInfo) => (f.off, f.size) := by funext k; simp
      rw [e, hf]
      rfl
    · next zs n e hzz hs =>
      have := shape_array (h3.symm.trans hs); subst this
      rw [hz, Option.map_eq_some_iff] at hzz
      obtain ⟨z, hz1, hz2⟩ := hzz
      have hzr := ofConst_rel G z
      rw [hz2] at hzr
      simp only [VRel] at hzr
      obtain ⟨c, rfl, hcr, hco⟩ := hzr
      split at h
      · next ei he =>
        obtain ⟨einf, ed, k1, k2, _, _, k4, _, _⟩ := layout_info he
        simp only [Option.map_eq_some_iff] at h
        obtain ⟨cs, h, rfl⟩ := h
        obtain ⟨us', hf, hr, ho⟩ := vfill_sound hpr hcr hco h
        refine ⟨.agg us', ?_, by simp only [VRel]; exact ⟨us', rfl, hr, ho⟩⟩
        simp only [Instr.build, Sem.run_bind, run_zeroValue h1 hz1, Result.andThen_ok, run_underlying h2, run_sizeOf' k1, Value.cells, ← k4, hf, Sem.run_pure]
      · cases h
    · cases h
  · cases h

theorem repCells_rel {G : Ghost} {zs : List VVal} {z : Array Value} (hr : VRels G zs z.toList) (ho : Ones z.toList) (n : Nat) (hn : n ≠ 0 → zs ≠ []) :
    VRels G (repCells zs n) ((Array.range n).map (fun i => z[i % z.size]!)).toList ∧ Ones ((Array.range n).map (fun i => z[i % z.size]!)).toList := by
  have hl := hr.length
  simp only [Array.length_toList] at hl
  have key : ∀ l : List Nat, (∀ i ∈ l, n ≠ 0) → VRels G (l.map fun i => zs.getD (i % zs.length) .undef) (l.map fun i => z[i % z.size]!) ∧ Ones (l.map fun i => z[i % z.size]!) := by
    intro l
    induction l with
    | nil => intro _; exact ⟨by simp [VRels], Ones.nil⟩
    | cons i l ih =>
      intro hl'
      obtain ⟨i1, i2⟩ := ih (fun j hj => hl' j (List.mem_cons_of_mem _ hj))
      have hpos : 0 < zs.length := by
        have := hn (hl' i (by simp))
        cases zs with
        | nil => exact absurd rfl this
        | cons _ _ => simp
      have hlt : i % zs.length < zs.length := Nat.mod_lt _ hpos
      have e1 : zs[i % zs.length]? = some (zs.getD (i % zs.length) .undef) := by simp [List.getD, List.getElem?_eq_getElem hlt]
      obtain ⟨u, hu, hru⟩ := hr.get e1
      have hu2 : z[i % z.size]! = u := by
        rw [← hl]
        have : z[i % zs.length]? = some u := by simpa using hu
        rw [getElem!_def, this]
      refine ⟨?_, ?_⟩
      · simp only [List.map_cons, VRels]
        exact ⟨_, _, rfl, by rw [hu2]; exact hru, i1⟩
      · simp only [List.map_cons]
        refine Ones.cons ?_ i2
        rw [hu2]
        exact ho u (List.mem_of_getElem? hu)
  have := key (List.range n) (fun i hi => by have := List.mem_range.1 hi; omega)
  simpa [repCells] using this

theorem vbuildSlice_sound {st : VSt} {G : Ghost} {w : World} {a : Act} (hm : MemOk st.mem G w) (ha : ActRel st G a) {t : TypeId} {len : Nat} {parts : Array (Nat × Operand)} {r : VVal}
    (h : vbuildSlice (layoutOf P) t len (st.parts parts.toList) = some r) :
    ∃ G' w' v', (Instr.buildSlice t len (parts.map fun (i, x) => (i, a.eval x))).run P w = .ok v' w' ∧ VRel G' r v' ∧ MemOk st.mem G' w' ∧ Trans st.mem G w st.mem G' w' := by
  unfold vbuildSlice at h
  split at h
  · next i hi =>
    obtain ⟨inf, d, h1, h2, h3, _, _, _, _⟩ := layout_info hi
    have hpr : PartsRel G (st.parts parts.toList) (parts.map fun (i, x) => (i, a.eval x)).toList := by rw [Array.toList_map]; exact ha.parts _
    split at h
    · next e hs =>
      have := shape_slice (h3.symm.trans hs); subst this
      split at h
      · next ei he =>
        obtain ⟨einf, ed, k1, k2, _, _, k4, _, kz⟩ := layout_info he
        split at h
        · next hsz =>
          split at h
          · next zs hzz =>
            simp only [Option.bind_eq_some_iff] at hzz
            obtain ⟨zv, hzv, hzc⟩ := hzz
            rw [kz, Option.map_eq_some_iff] at hzv
            obtain ⟨z, hz1, rfl⟩ := hzv
            obtain ⟨hcr, hco⟩ := (ofConst_rel G z).cells hzc
            split at h
            case isFalse => cases h
            rename_i hzl
            simp only [Option.map_eq_some_iff] at h
            obtain ⟨cs, h, rfl⟩ := h
            -- the row of zeros
            have hzrow : ∃ zr : Array Value, ((len * einf.size = 0 ∧ zr = #[]) ∨ (len * einf.size ≠ 0 ∧ zr = z.cells)) ∧
                VRels G (repCells zs (len * ei.size)) ((Array.range (len * einf.size)).map (fun i => zr[i % zr.size]!)).toList ∧ Ones ((Array.range (len * einf.size)).map (fun i => zr[i % zr.size]!)).toList := by
              rw [k4]
              by_cases q : len * einf.size = 0
              · refine ⟨#[], .inl ⟨q, rfl⟩, ?_⟩
                rw [q]
                simp [repCells, VRels, Ones]
              · refine ⟨z.cells, .inr ⟨q, rfl⟩, ?_⟩
                · refine repCells_rel hcr hco _ (fun _ hzs => q ?_)
                  subst hzs
                  rw [← k4, ← hzl]
                  simp
            obtain ⟨zr, hzrun, hzrel, hzones⟩ := hzrow
            obtain ⟨us', hf, hr, ho⟩ := vfill_sound hpr hzrel hzones h
            obtain ⟨m1, t1⟩ := hm.pushRow us'.toList us' e (List.prefix_refl _) ho
            refine ⟨_, w.alloc (.cells us' e), .slice (some ⟨w.heap.size, 0, none⟩) len len, ?_, ?_, m1, t1⟩
            · simp only [Instr.buildSlice, Sem.run_bind, run_underlying h2, Result.andThen_ok, run_sizeOf' k1]
              rw [if_neg (by rw [← k4]; omega)]
              rw [k4] at hf
              rcases hzrun with ⟨q, rfl⟩ | ⟨q, rfl⟩
              · rw [if_pos q]
                simp only [Sem.run_bind, Sem.run_pure, Result.andThen_ok]
                rw [hf]
                simp [newRow]
              · rw [if_neg q]
                simp only [Sem.run_bind, run_zeroValue k1 hz1, Sem.run_pure, Result.andThen_ok]
                rw [hf]
                simp [newRow]
            · simp only [VRel]
              refine ⟨_, _, rfl, Nat.le_refl _, rfl, ?_⟩
              have hl := hr.length
              by_cases hz : cs = []
              · exact .inl hz
              · refine .inr ⟨w.heap.size, 0, us'.toList, us'.size, rfl, put_kind_same, by omega, ?_⟩
                rw [List.drop_zero, hl, List.take_length]
                exact VRels.mono t1.ext hr
          · cases h
        · cases h
      · cases h
    · cases h
  · cases h

end Go.Pv

/- The pure operations, sound: look-ups; all together. -/
namespace Go.Pv
variable {P : Program}

theorem vfind_idx {k : VVal} : ∀ {es : List VEnt} {r : Option VVal} (n : Nat), vfind k es = some r → (r = none ∧ vfindIdx k es n = some none) ∨ (∃ j e, vfindIdx k es n = some (some j) ∧ n ≤ j ∧ es[j - n]? = some e ∧ r = some e.val)
  | [], r, n, h => by simp [vfind] at h; subst h; exact .inl ⟨rfl, rfl⟩
  | e :: es, r, n, h => by
    simp only [vfind] at h
    split at h
    · next hs =>
      simp at h; subst h
      exact .inr ⟨n, e, by simp [vfindIdx, hs], Nat.le_refl _, by simp, rfl⟩
    · next hs =>
      rcases vfind_idx (n + 1) h with ⟨q1, q2⟩ | ⟨j, e', q1, q2, q3, q4⟩
      · exact .inl ⟨q1, by simp only [vfindIdx, hs]; exact q2⟩
      · refine .inr ⟨j, e', by simp only [vfindIdx, hs]; exact q1, by omega, ?_, q4⟩
        rw [show j - n = (j - (n + 1)) + 1 from by omega]; simpa using q3
    · cases h

theorem vlookup_sound {M : VMem} {G : Ghost} {w : World} (hm : MemOk M G w) {t : TypeId} {m k r : VVal} {mv kv : Value} {ok : Bool} (hmr : VRel G m mv) (hkr : VRel G k kv)
    (h : vlookup (layoutOf P) M.ob t m k ok = some r) : Gives P G w (Instr.lookup t mv kv ok) r := by
  unfold vlookup at h
  split at h
  · next i hi =>
    obtain ⟨inf, d, h1, h2, h3, _, _, _, _⟩ := layout_info hi
    split at h
    · next kt et hs =>
      have := shape_map (h3.symm.trans hs); subst this
      split at h
      · next ki ei hki hei =>
        obtain ⟨kinf, kd, k1, k2, k3, _, _, _, _⟩ := layout_info hki
        obtain ⟨einf, ed, e1, e2, e3, _, _, _, ez⟩ := layout_info hei
        split at h
        · next hf =>
          have hck : ∀ b, (Instr.checkKey b 10000 kt kv).run P w = .ok () w := fun b => checkKey_fits hki hf hkr b w
          simp only at h
          have hes : ∀ es, (match m with | .map none => some [] | .map (some o) => (match M.ob o with | some (.map es _) => some es | _ => none) | _ => none) = some es →
              ∃ (res : Array MapEntry) (clk : Nat), MapRel G es res clk ∧ ((mv = .map none ∧ res = #[]) ∨ ∃ b cl, mv = .map (some b) ∧ w.heap[b]? = some (.map res cl)) := by
            intro es he
            split at he
            · simp at he; subst he
              simp only [VRel] at hmr; subst hmr
              exact ⟨#[], 0, ⟨[], rfl, List.Perm.refl _, List.Pairwise.nil, by simp, by simp⟩, .inl ⟨rfl, rfl⟩⟩
            · next o =>
              simp only [VRel] at hmr
              obtain ⟨b, hk, rfl⟩ := hmr
              split at he
              · next es' cl ho =>
                simp at he; subst he
                obtain ⟨b', res, hk', hw, hr⟩ := hm.ob o _ ho
                have := hm.obI b b' o hk hk'; subst this
                exact ⟨res, cl, hr, .inr ⟨b, cl, rfl, hw⟩⟩
              · cases he
            · cases he
          split at h
          · next es he =>
            obtain ⟨res, clk, hr, hmv⟩ := hes es he
            have hwhole : ∀ (fr : Option (Nat × Value)), (Instr.findKey kt kv res.toList).run P w = .ok fr w → (Instr.lookup t mv kv ok).run P w =
                ((match fr with
                  | some (_, v) => pure (v, true)
                  | none => do pure (← zeroValue et, false) : Sem (Value × Bool)).run P w).andThen fun p w' => .ok (if ok then .tuple #[p.1, .bool p.2] else p.1) w' := by
              intro fr hfr
              simp only [Instr.lookup, Sem.run_bind, run_underlying h2, Result.andThen_ok]
              rcases hmv with ⟨rfl, rfl⟩ | ⟨b, cl, rfl, hw⟩
              · simp only [Sem.run_bind, Sem.run_pure, Result.andThen_ok, hck, hfr]
                cases fr with
                | none => simp only [Sem.run_bind]; cases (zeroValue et).run P w <;> rfl
                | some q => rfl
              · have hg : (getObj b).run P w = .ok (.map res cl) w := by simp [getObj, Sem.run, hw]
                simp only [Sem.run_bind, hg, Sem.run_pure, Result.andThen_ok, hck, hfr]
                cases fr with
                | none => simp only [Sem.run_bind]; cases (zeroValue et).run P w <;> rfl
                | some q => rfl
            split at h
            · next v hv =>
              simp at h; subst h
              rcases vfind_idx 0 hv with ⟨q, _⟩ | ⟨j, e, hj, _, hg, q⟩
              · cases q
              · cases q
                obtain ⟨e', r, l1, l2, g1, g2, g3, g4, g5, g6, _⟩ := hr.found hj
                simp only [Nat.sub_zero] at hg
                rw [g1] at hg
                cases hg
                refine ⟨_, by rw [hwhole (some (l1.length, r.val)) (by rw [g4]; exact findKey_some hki hf hkr w g5 g6)]; rfl, ?_⟩
                cases ok with
                | true => simpa using VRel.pair g3.2 (by simp [VRel])
                | false => simpa using g3.2
            · next hv =>
              simp only [Option.map_eq_some_iff] at h
              obtain ⟨z, hz, rfl⟩ := h
              rw [ez, Option.map_eq_some_iff] at hz
              obtain ⟨zv, hz1, rfl⟩ := hz
              rcases vfind_idx 0 hv with ⟨_, hj⟩ | ⟨j, e, _, _, _, q⟩
              · refine ⟨_, by rw [hwhole none (findKey_none hki hf hkr w (hr.lacks hj))]; simp only [Sem.run_bind, run_zeroValue e1 hz1, Result.andThen_ok, Sem.run_pure]; rfl, ?_⟩
                cases ok with
                | true => simpa using VRel.pair (ofConst_rel G zv) (by simp [VRel])
                | false => simpa using ofConst_rel G zv
              · cases q
            · cases h
          · cases h
        · cases h
      · cases h
    · cases h
  · cases h

/-! ### A row's bytes as a string -/

theorem MemOk.frost {M : VMem} {G : Ghost} {w : World} (h : MemOk M G w) {b : Nat} {rc : List Value} {total : Nat} {c : Array Value} {E : TypeId} {fr fr' : Nat × Nat} (hk : G.kind b = .row rc total)
    (hw : w.heap[b]? = some (.cells c E fr)) (hfr : fr'.2 ≤ rc.length) : MemOk M G { w with heap := w.heap.setIfInBounds b (.cells c E fr') } := by
  have hlt : b < w.heap.size := h.lt b (by rw [hk]; simp)
  have hne : ∀ b', b' ≠ b → (w.heap.setIfInBounds b (.cells c E fr'))[b']? = w.heap[b']? := fun b' hb => by
    rw [Array.getElem?_setIfInBounds, if_neg (by omega)]
  have hb : (w.heap.setIfInBounds b (.cells c E fr'))[b]? = some (.cells c E fr') := by simp [hlt]
  exact
    { h with
      ob := fun o x k => (h.ob o x k).mono (Ext.refl G) (fun b' hb' => hne b' (fun q => by subst q; rw [hk] at hb'; cases hb'))
      lc := fun s v x k => (h.lc s v x k).mono (Ext.refl G) (fun b' hb' => hne b' (fun q => by subst q; rw [hk] at hb'; cases hb'))
      rows := fun b' rc' t' k => by
        obtain ⟨c1, E1, fr1, h1, h2, h3, h4, h5⟩ := h.rows b' rc' t' k
        by_cases q : b' = b
        · subst q
          rw [hk] at k; cases k
          rw [hw] at h1; cases h1
          exact ⟨c, E, fr', hb, h2, h3, hfr, h5⟩
        · exact ⟨c1, E1, fr1, (hne b' q).trans h1, h2, h3, h4, h5⟩
      lt := fun b' k => by rw [Array.size_setIfInBounds]; exact h.lt b' k
      gr := fun t vs k => (h.gr t vs k).mono (Ext.refl G) (fun _ _ h => h) (fun b' n hb' => hne b' (fun q => by subst q; rw [hk] at hb'; cases hb'))
      ty := fun k e q => by
        obtain ⟨h1, h2, h3⟩ := h.ty k e q
        have key : ∀ b' : Nat, (∃ c1 fr1, w.heap[b']? = some (Obj.cells c1 e fr1)) → ∃ c1 fr1, (w.heap.setIfInBounds b (.cells c E fr'))[b']? = some (Obj.cells c1 e fr1) := by
          rintro b' ⟨c1, fr1, hc⟩
          by_cases q : b' = b
          · subst q
            rw [hw] at hc; cases hc
            exact ⟨c, fr', hb⟩
          · exact ⟨c1, fr1, (hne b' q).trans hc⟩
        exact ⟨h1, fun b' hb' => key b' (h2 b' hb'), fun b' n hb' => key b' (h3 b' n hb')⟩ }

theorem run_loadBytes (b : Nat) {w : World} : ∀ (ns : List Int) (off : Nat) (acc : ByteArray), (∀ j n, ns[j]? = some n → w.cell? ⟨b, off + j, none⟩ = some (.int .u8 n)) →
    (loadBytes ⟨b, off, none⟩ acc ns.length).run P w = .ok (ns.foldl (fun (r : ByteArray) n => r.push (UInt8.ofNat n.toNat)) acc) w
  | [], off, acc, _ => rfl
  | n :: ns, off, acc, h => by
    have h0 := h 0 n rfl
    rw [Nat.add_zero] at h0
    simp only [List.length_cons, loadBytes, Sem.run_bind, run_load, h0, Result.andThen_ok, addr_add]
    rw [run_loadBytes b ns (off + 1) _ (fun j m e => by rw [show off + 1 + j = off + (j + 1) from by omega]; exact h (j + 1) m (by simpa using e))]
    rfl

theorem lies_bytes {e : TypeId} (hc : P.cellsOf e = 1) {n total : Nat} (h : n ≤ total) : liesAt P P.depth e (total / P.cellsOf e) 0 e n = true := by
  have hd : P.depth = (2 * (P.types.size + Made.depth) + 1) + 1 := rfl
  have hl : sameLayout P P.depth e e = true := by rw [hd]; unfold sameLayout; simp
  have hr : rowAt P (sameLayout P P.depth · e) P.depth e (total / P.cellsOf e) 0 n = true := by
    generalize hf : (fun x => sameLayout P P.depth x e) = fits
    have hfe : fits e = true := by rw [← hf]; exact hl
    rw [hd]
    unfold rowAt
    simp [hc, h, hfe]
  rw [show liesAt P P.depth e (total / P.cellsOf e) 0 e n = liesAt P ((2 * (P.types.size + Made.depth) + 1) + 1) e (total / P.cellsOf e) 0 e n from rfl]
  unfold liesAt
  rw [hr]; rfl

theorem sliceData_eq (ts : Array TypeId) (ty : TypeId) (a : Addr) (n c : Nat) (h : c ≠ 0) : Builtin.unsafeSliceData_ ts ty #[.slice (some a) n c] = pure (.pointer (some a)) := by
  show (if c ≠ 0 then _ else _) = _
  rw [if_pos h]

theorem unsafeString_eq (pt : TypeId) (ts : List TypeId) (ty : TypeId) (a : Addr) (k : IntKind) (n : Int) (h0 : 0 < n) (h1 : n ≤ 9223372036854775807) :
    Builtin.unsafeString_ (pt :: ts).toArray ty #[.pointer (some a), .int k n] = (do
      let e ← elemOf pt
      let b ← variablesAt a e n.toNat
      if b = true then do
        let s ← loadBytes a .empty n.toNat
        freeze a n.toNat
        pure (.string s)
      else unsupported (.unsafePointer "String: not so many bytes at ptr")) := by
  show (if n < 0 then _ else if n > IntKind.i64.max then _ else if n = 0 then _ else _) = _
  rw [if_neg (by omega), if_neg (by rw [IntKind.max_i64]; omega), if_neg (by omega)]
  rfl

theorem unsafeString_nil (pt : TypeId) (ts : List TypeId) (ty : TypeId) (k : IntKind) :
    Builtin.unsafeString_ (pt :: ts).toArray ty #[.pointer none, .int k 0] = pure (.string .empty) := by
  rfl

theorem vsliceData_sound {G : Ghost} {w : World} {x r : VVal} {v : Value} (hx : VRel G x v) (h : vsliceData x = some r) (ts : Array TypeId) (ty : TypeId) :
    Gives P G w (Builtin.unsafeSliceData_ ts ty #[v]) r := by
  unfold vsliceData at h
  split at h
  · simp at h; subst h
    simp only [VRel, CapOk] at hx
    obtain ⟨_, _, rfl, _, ⟨rfl, _⟩, _⟩ := hx
    exact ⟨.pointer none, rfl, by simp [VRel]⟩
  · next c cs len t sz =>
    split at h
    · next hlen =>
      simp at h; subst h
      simp only [VRel, CapOk] at hx
      obtain ⟨a, rcap, rfl, hle, ⟨hb, hf⟩, hc⟩ := hx
      rcases hc with hc | ⟨b, off, rc, total, rfl, hk, hlt, hr⟩
      · cases hc
      refine ⟨.pointer (some ⟨b, off, none⟩), ?_, ?_⟩
      · rw [sliceData_eq _ _ _ _ _ (by omega)]; rfl
      · simp only [VRel]
        refine ⟨b, off, rc, total, hk, rfl, hlt, hr, hb, fun b' m hm => ?_⟩
        obtain ⟨q1, q2⟩ := hf b' m hm
        refine ⟨q1, fun q => ?_⟩
        obtain ⟨q3, _⟩ := q2 q
        cases q3
        exact ⟨rfl, rfl⟩
    · cases h
  · cases h

theorem vunsafeString_sound {M : VMem} {G : Ghost} {w : World} (hm : MemOk M G w) {x n r : VVal} {v nv : Value} {pt : TypeId} (hx : VRel G x v) (hn : VRel G n nv) (h : vunsafeString (layoutOf P) M.fm M.ty pt x n = some r) (ts : List TypeId) (ty : TypeId) :
    ∃ w' v', (Builtin.unsafeString_ (pt :: ts).toArray ty #[v, nv]).run P w = .ok v' w' ∧ VRel G r v' ∧ MemOk M G w' ∧ Trans M G w M G w' := by
  unfold vunsafeString at h
  split at h
  · next k m =>
    split at h
    · next hm0 =>
      simp at h; subst h hm0
      simp only [VRel] at hx hn; subst hx hn
      refine ⟨w, .string .empty, ?_, by simp [VRel]; rfl, hm, Trans.refl _ _ _⟩
      rw [unsafeString_nil]; rfl
    · cases h
  · next cells t k m =>
    split at h
    · next pi hpi =>
      obtain ⟨pinf, pd, p1, p2, p3, _, _, _, _⟩ := layout_info hpi
      split at h
      · next e hsh =>
        have := shape_ptr (p3.symm.trans hsh); subst this
        split at h
        · next ei l hei hl =>
          obtain ⟨einf, ed, e1, e2, e3, _, e5, _, _⟩ := layout_info hei
          split at h
          · next hc =>
            obtain ⟨c1, c2, c3, c4, c5, c6, c7⟩ := hc
            simp at h; subst h
            simp only [VRel] at hn; subst hn
            simp only [VRel] at hx
            obtain ⟨b, off, rc, total, hk, rfl, hlt, hr, hb, hfirst⟩ := hx
            obtain ⟨b', rc', total', f1, f2, f3⟩ := hm.fm t _ c6
            obtain ⟨_, hq⟩ := hfirst b' _ f1
            obtain ⟨rfl, rfl⟩ := hq rfl
            rw [hk] at f2; cases f2
            obtain ⟨ns, hns, rfl⟩ := bytesOf_rel hl hr
            have hrc : rc = ns.map (Value.int .u8) := by
              rw [← hns, List.drop_zero, List.take_of_length_le (by omega)]
            obtain ⟨c, E, ⟨lo, hi⟩, w1, w2, w3, w4, w5⟩ := hm.rows _ _ _ hk
            obtain ⟨_, _, hty⟩ := hm.ty t e c7
            obtain ⟨c', fr', hw'⟩ := hty _ _ f1
            rw [w1] at hw'; cases hw'
            have hnlen : ns.length = cells.length := by rw [← f3, hrc]; simp
            have hcell : ∀ j n, ns[j]? = some n → w.cell? ⟨b', 0 + j, none⟩ = some (.int .u8 n) := by
              intro j n hj
              have h1 : rc[j]? = some (.int .u8 n) := by rw [hrc]; simp [hj]
              have h2 : c.toList[j]? = some (.int .u8 n) := by
                obtain ⟨tl, htl⟩ := w3
                rw [← htl, List.getElem?_append_left, h1]
                rcases Nat.lt_or_ge j rc.length with q | q
                · exact q
                · rw [List.getElem?_eq_none q] at h1; cases h1
              simp only [World.cell?, w1, Nat.zero_add]
              simpa using h2
            have hload := run_loadBytes (P := P) b' ns 0 .empty hcell
            rw [hnlen] at hload
            have hshape : w.shape? b' = some (e, c.size) := by simp [World.shape?, w1]
            have hcells : P.cellsOf e = 1 := by simp [Program.cellsOf, e1, ← e5, c5]
            have hle : cells.length ≤ c.size := by
              have := w3.length_le
              simp at this; omega
            have hva : (variablesAt ⟨b', 0, none⟩ e cells.length).run P w = .ok true w := by
              simp only [variablesAt, Sem.run_bind, run_program, run_shape, hshape, Result.andThen_ok, Sem.run_pure]
              exact congrArg (fun q => Result.ok q w) (lies_bytes hcells hle)
            have hel : (elemOf pt).run P w = .ok e w := by simp [elemOf, run_underlying p2]
            let fr2 : Nat × Nat := if lo == hi then (0, 0 + cells.length) else (min lo 0, max hi (0 + cells.length))
            have hfz : w.freeze ⟨b', 0, none⟩ cells.length = { w with heap := w.heap.setIfInBounds b' (.cells c e fr2) } := by
              unfold World.freeze
              rw [if_neg (by omega)]
              congr 1
              apply Array.ext_getElem?
              intro j
              rw [Array.getElem?_modify, Array.getElem?_setIfInBounds]
              have hblt := hm.lt b' (by rw [hk]; simp)
              by_cases q : b' = j
              · subst q
                rw [if_pos rfl, if_pos rfl, if_pos hblt, w1]
                rfl
              · rw [if_neg q, if_neg q]
            have hfr2 : fr2.2 ≤ rc.length := by
              simp only [fr2]
              split
              · simp; omega
              · simp; omega
            refine ⟨_, .string ⟨(ns.map fun n => UInt8.ofNat n.toNat).toArray⟩, ?_, by simp [VRel], hm.frost hk w1 hfr2 (fr' := fr2), ?_⟩
            · rw [c1, unsafeString_eq _ _ _ _ _ _ (by omega) (by omega)]
              simp only [Int.toNat_natCast, Sem.run_bind, hel, hva, Result.andThen_ok, if_true, hload, run_freeze, Sem.run_pure, hfz]
              have := foldl_push_map ns []
              simp only [List.nil_append] at this
              rw [← this]
              rfl
            · have hacc : Acc M G b' := by
                simp only [Acc, hk]
                exact ⟨t, _, f1, by rw [c6]; simp⟩
              exact { Trans.refl M G w with
                size := by simp
                keep := fun b0 _ hn => ⟨by
                  show (w.heap.setIfInBounds b' _)[b0]? = _
                  rw [Array.getElem?_setIfInBounds, if_neg (fun q => hn (by rw [← q]; exact hacc))], rfl⟩ }
          · cases h
        · cases h
      · cases h
    · cases h
  · cases h

theorem vnext_sound {M : VMem} {G : Ghost} {w : World} (hm : MemOk M G w) {x r : VVal} {v : Value} {s : Bool} (hx : VRel G x v) (h : vnext M.ob x s = some r) (ty : TypeId) : Gives P G w (Instr.next v s ty) r := by
  unfold vnext at h
  split at h
  · next o =>
    simp only [VRel] at hx
    obtain ⟨b, hk, rfl⟩ := hx
    split at h
    · next ho =>
      simp at h; subst h
      obtain ⟨b', x, hk', hw, rfl⟩ := hm.ob o _ ho
      have := hm.obI b b' o hk hk'; subst this
      have hg : (getObj b).run P w = .ok (.mapIter none 0 #[] 0) w := by simp [getObj, Sem.run, hw]
      refine ⟨.tuple #[.bool false], ?_, by simp [VRel, VRels]⟩
      simp only [Instr.next, Sem.run_bind, hg, Result.andThen_ok, Sem.run_pure]
    · next m since ho =>
      split at h
      · next clock ho2 =>
        simp at h; subst h
        obtain ⟨b', x, hk', hw, bm, hkm, rfl⟩ := hm.ob o _ ho
        have := hm.obI b b' o hk hk'; subst this
        obtain ⟨bm', res, hkm', hwm, l, hl, hp, _⟩ := hm.ob m _ ho2
        have := hm.obI bm bm' m hkm hkm'; subst this
        simp only [EntsRel] at hl; subst hl
        have hres : res = #[] := by
          have := hp.nil_eq
          exact Array.toList_eq_nil_iff.1 this.symm
        subst hres
        have hg : (getObj b).run P w = .ok (.mapIter (some bm) since #[] since) w := by simp [getObj, Sem.run, hw]
        have hgm : (getObj bm).run P w = .ok (.map #[] clock) w := by simp [getObj, Sem.run, hwm]
        refine ⟨.tuple #[.bool false], ?_, by simp [VRel, VRels]⟩
        simp only [Instr.next, Sem.run_bind, hg, hgm, Result.andThen_ok]
        have e0 : ∀ p : MapEntry → Bool, (#[] : Array MapEntry).filter p = #[] := fun p => by simp
        have e1 : ((if (#[] : Array MapEntry).isEmpty = true then #[none] else #[]) ++ Array.map some (#[] ++ #[]) : Array (Option MapEntry)) = #[none] := by simp
        have e2 : (!(#[] : Array Nat).isEmpty && !(#[] : Array MapEntry).isEmpty && (#[] : Array MapEntry).all fun x => decide (x.born ≥ since)) = false := by simp
        have e3 : (Question.mapNext (#[none] : Array (Option MapEntry)).size).forced = true := by simp [Question.forced]
        simp only [e0, e1, e2, Bool.false_eq_true, if_false, Sem.run_bind, run_choose, e3, if_true, Result.andThen_ok]
        rfl
      · cases h
    · cases h
  · cases h

/-- An operation that turns no virtual memory, really carried out. -/
def LightOk (P : Program) (M : VMem) (G : Ghost) (w : World) (s : Sem Next) (r : VVal) : Prop :=
  ∃ G' w' v', s.run P w = .ok (.value v') w' ∧ VRel G' r v' ∧ MemOk M G' w' ∧ Trans M G w M G' w'

theorem LightOk.of_gives {M : VMem} {G : Ghost} {w : World} (hm : MemOk M G w) {s : Sem Value} {r : VVal} (h : Gives P G w s r) : LightOk P M G w (do pure (.value (← s))) r := by
  obtain ⟨v', h1, h2⟩ := h
  exact ⟨G, w, v', by simp [h1], h2, hm, Trans.refl M G w⟩

theorem LightOk.of_value {M : VMem} {G : Ghost} {w : World} (hm : MemOk M G w) {v : Value} {r : VVal} (h : VRel G r v) : LightOk P M G w (pure (.value v)) r :=
  ⟨G, w, v, rfl, h, hm, Trans.refl M G w⟩

theorem light_sound {st : VSt} {G : Ghost} {w : World} {a : Act} (hm : MemOk st.mem G w) (ha : ActRel st G a) {o : Oper} {r : VVal} (h : st.light (layoutOf P) o.op = some r) :
    LightOk P st.mem G w (execOp a.eval o) r := by
  obtain ⟨dst, op, type, pos, after, guard⟩ := o
  simp only at h
  unfold VSt.light at h
  split at h
  case h_1 x => simp at h; subst h; exact .of_value hm (ha.ev x)
  case h_2 x => simp at h; subst h; exact .of_value hm (ha.ev x)
  case h_3 c x y =>
    split at h
    · next t hc =>
      simp at h; subst h
      have hcr := ha.ev c
      rw [hc] at hcr
      simp only [VRel] at hcr
      refine ⟨G, w, if t then a.eval x else a.eval y, ?_, ?_, hm, Trans.refl _ G w⟩
      · simp only [execOp, hcr, asBool, Sem.run_bind, Sem.run_pure, Result.andThen_ok]
      · cases t
        · exact ha.ev y
        · exact ha.ev x
    · cases h
  case h_4 t x =>
    split at h
    · next i vs off hi hc => exact .of_gives hm (vload_sound hm hi (ha.ev x) hc h)
    · cases h
  case h_5 x =>
    obtain ⟨h1, h2⟩ := vnil_sound (P := P) (w := w) (ha.ev x) h
    exact ⟨G, w, a.eval x, h2 _ x _ rfl rfl, h1, hm, Trans.refl _ G w⟩
  case h_6 s x f => exact .of_gives hm (vfieldAddr_sound (ha.ev x) h)
  case h_7 t x ix => exact .of_gives hm (vindexAddr_sound (ha.ev x) (ha.ev ix) h)
  case h_8 t x f => exact .of_gives hm (vfield_sound (ha.ev x) h)
  case h_9 t x ix => exact .of_gives hm (vindex_sound (ha.ev x) (ha.ev ix) h)
  case h_10 op t x y _ => exact .of_gives hm (vbin_sound hm (ha.ev x) (ha.ev y) h)
  case h_11 op _ x => exact .of_gives hm (vun_sound (ha.ev x) h)
  case h_12 s d x => exact .of_gives hm (vconvert_sound hm (ha.ev x) h)
  case h_13 t x =>
    split at h
    · next i hi =>
      obtain ⟨inf, d, h1, h2, h3, _, _, _, _⟩ := layout_info hi
      split at h
      · cases h
      · next hn =>
        simp at h; subst h
        refine .of_gives hm ⟨.iface t (a.eval x), ?_, by simp only [VRel]; exact ⟨_, rfl, ha.ev x⟩⟩
        simp only [Instr.makeInterface, Sem.run_bind, run_underlying h2, Result.andThen_ok]
        cases d <;> first | rfl | (exact absurd h3 (hn _))
    · cases h
  case h_14 fn first captured =>
    simp at h; subst h
    refine .of_gives hm ⟨_, rfl, ?_⟩
    simp only [VRel]
    exact ⟨_, _, rfl, by rw [Array.toList_map]; exact ha.evs _, by rw [Array.toList_map]; exact ha.evs _⟩
  case h_15 x i => exact .of_gives hm (vextract_sound (ha.ev x) h)
  case h_16 t parts => exact .of_gives hm (vbuild_sound ha h)
  case h_17 t len parts =>
    obtain ⟨G', w', v', h1, h2, h3, h4⟩ := vbuildSlice_sound (P := P) hm ha h
    exact ⟨G', w', v', by simp [execOp, h1], h2, h3, h4⟩
  case h_18 t x lo hi mx =>
    split at h
    · next l hh m h1 h2 h3 => exact .of_gives hm (vslice_sound (ha.ev x) (bound_rel ha h1) (bound_rel ha h2) (bound_rel ha h3) h)
    · cases h
  case h_19 t m k ok => exact .of_gives hm (vlookup_sound hm (ha.ev m) (ha.ev k) h)
  case h_20 x xt t ok => exact .of_gives hm (vassert_sound (ha.ev x) h)
  case h_21 args argTypes =>
    split at h
    · next x t e1 e2 =>
      have e1' : args = #[x] := by rw [← Array.toList_inj, e1]
      have e2' : argTypes = #[t] := by rw [← Array.toList_inj, e2]
      subst e1' e2'
      obtain ⟨v', g1, g2⟩ := vlen_sound (P := P) hm (ha.ev x) h type
      refine ⟨G, w, v', ?_, g2, hm, Trans.refl _ G w⟩
      simp [execOp, resolve, invoke, builtin, g1]
    · cases h
  case h_22 args argTypes =>
    split at h
    · next x t e1 e2 =>
      have e1' : args = #[x] := by rw [← Array.toList_inj, e1]
      have e2' : argTypes = #[t] := by rw [← Array.toList_inj, e2]
      subst e1' e2'
      obtain ⟨v', g1, g2⟩ := vcap_sound (P := P) (w := w) (ha.ev x) h type
      refine ⟨G, w, v', ?_, g2, hm, Trans.refl _ G w⟩
      simp [execOp, resolve, invoke, builtin, g1]
    · cases h
  case h_23 args argTypes =>
    split at h
    · next x e1 =>
      have e1' : args = #[x] := by rw [← Array.toList_inj, e1]
      subst e1'
      obtain ⟨v', g1, g2⟩ := vsliceData_sound (P := P) (w := w) (ha.ev x) h argTypes type
      refine ⟨G, w, v', ?_, g2, hm, Trans.refl _ G w⟩
      simp [execOp, resolve, invoke, builtin, g1]
    · cases h
  case h_24 args argTypes =>
    split at h
    · next x n t ts e1 e2 =>
      have e1' : args = #[x, n] := by rw [← Array.toList_inj, e1]
      have e2' : argTypes = (t :: ts).toArray := by rw [← Array.toList_inj, e2]
      subst e1' e2'
      obtain ⟨w', v', g1, g2, g3, g4⟩ := vunsafeString_sound (P := P) hm (ha.ev x) (ha.ev n) h ts type
      refine ⟨G, w', v', ?_, g2, g3, g4⟩
      simp [execOp, resolve, invoke, builtin, g1]
    · cases h
  case h_25 args argTypes =>
    have hev : VRels G (st.evs args.toList) (args.map a.eval).toList := by rw [Array.toList_map]; exact ha.evs _
    obtain ⟨v', g1, g2⟩ := vmax_sound (P := P) (w := w) (b := true) hev h argTypes type
    simp only [if_true] at g1
    refine ⟨G, w, v', ?_, g2, hm, Trans.refl _ G w⟩
    simp [execOp, resolve, invoke, builtin, g1]
  case h_26 args argTypes =>
    have hev : VRels G (st.evs args.toList) (args.map a.eval).toList := by rw [Array.toList_map]; exact ha.evs _
    obtain ⟨v', g1, g2⟩ := vmax_sound (P := P) (w := w) (b := false) hev h argTypes type
    simp only [Bool.false_eq_true, if_false] at g1
    refine ⟨G, w, v', ?_, g2, hm, Trans.refl _ G w⟩
    simp [execOp, resolve, invoke, builtin, g1]
  case h_27 x s =>
    obtain ⟨v', g1, g2⟩ := vnext_sound (P := P) hm (ha.ev x) h type
    exact .of_gives hm ⟨v', g1, g2⟩
  case h_28 => cases h

end Go.Pv

/- The triple over code, virtually; its rules. -/
namespace Go.Pv

inductive VOut where
  | ret (v : VVal)
  | panic (v : VVal)

def EndRel (G : Ghost) : VOut → Ending → Prop
  | .ret v, .returned v' => VRel G v v'
  | .panic v, .panicked [e] => VRel G v e.v ∧ e.recovered = false ∧ e.goexit = false
  | _, _ => False

/-- What lies behind a call. -/
def CallPost (h : VHeap) (G : Ghost) (w : World) (Q : VOut → VHeap → Prop) (e : Ending) (w' : World) : Prop :=
  ∃ G' h' out, Q out h' ∧ EndRel G' out e ∧ MemOk h'.mem G' w' ∧ Trans h.mem G w h'.mem G' w'

/-- A call, virtually: of values args over the heap h: it ends in Q. -/
def VCalls (P : Program) (f : FuncId) (args : List VVal) (h : VHeap) (Q : VOut → VHeap → Prop) : Prop :=
  ∀ (G : Ghost) (w : World) (rargs : Array Value), MemOk h.mem G w → VRels G args rargs.toList →
    ((callFunc f rargs).run P w = .ok (.enter f rargs) w ∧ Calls P f rargs w (CallPost h G w Q)) ∨
    (∃ v' w', (callFunc f rargs).run P w = .ok (.value v') w' ∧ CallPost h G w Q (.returned v') w')

theorem VCalls.mono {P : Program} {f : FuncId} {args : List VVal} {h : VHeap} {Q Q' : VOut → VHeap → Prop} (k : VCalls P f args h Q) (hq : ∀ o h', Q o h' → Q' o h') : VCalls P f args h Q' := by
  intro G w rargs hm hr
  have up : ∀ e w', CallPost h G w Q e w' → CallPost h G w Q' e w' := fun e w' ⟨G', h', out, a, b⟩ => ⟨G', h', out, hq _ _ a, b⟩
  rcases k G w rargs hm hr with ⟨h1, h2⟩ | ⟨v', w', h1, h2⟩
  · exact .inl ⟨h1, h2.mono up⟩
  · exact .inr ⟨v', w', h1, up _ _ h2⟩

inductive VExit where
  | normal
  | exit (id : Nat)
  | goto (l : Nat)
  | ret
  | panic (v : VVal)

def ExitRel (G : Ghost) : VExit → Exit → Prop
  | .normal, .normal => True
  | .exit i, .exit j => i = j
  | .goto i, .goto j => i = j
  | .ret, .ret => True
  | .panic v, .panic [e] => VRel G v e.v ∧ e.recovered = false ∧ e.goexit = false
  | _, _ => False

def WPost (st : VSt) (G : Ghost) (w : World) (D : List Deferred) (Q : VExit → VSt → Prop) (e : Exit) (a' : Act) (w' : World) : Prop :=
  ∃ G' st' e', Q e' st' ∧ ExitRel G' e' e ∧ MemOk st'.mem G' w' ∧ ActRel st' G' a' ∧ a'.defers = D ∧ Trans st.mem G w st'.mem G' w'

/-- Code, virtually. -/
def VW (P : Program) (c : Code) (Q : VExit → VSt → Prop) (st : VSt) : Prop :=
  ∀ (G : Ghost) (w : World) (a : Act), MemOk st.mem G w → ActRel st G a → c.wp P (WPost st G w a.defers Q) a w

section rules
variable {P : Program} {Q : VExit → VSt → Prop} {st : VSt}

theorem VW.mono {c : Code} {Q' : VExit → VSt → Prop} (h : VW P c Q st) (hq : ∀ e st', Q e st' → Q' e st') : VW P c Q' st :=
  fun G w a hm ha => wp_mono (h G w a hm ha) fun _ _ _ ⟨G', st', e', q, r⟩ => ⟨G', st', e', hq _ _ q, r⟩

theorem WPost.here {e' : VExit} {e : Exit} (h : Q e' st) {G : Ghost} {w : World} {a : Act} (hm : MemOk st.mem G w) (ha : ActRel st G a) (he : ExitRel G e' e) : WPost st G w a.defers Q e a w :=
  ⟨G, st, e', h, he, hm, ha, rfl, Trans.refl _ G w⟩

theorem vw_skip (h : Q .normal st) : VW P .skip Q st := fun _ _ _ hm ha => wp_skip (.here h hm ha trivial)
theorem vw_label {l : Nat} (h : Q .normal st) : VW P (.label l) Q st := fun _ _ _ hm ha => wp_label (.here h hm ha trivial)
theorem vw_exit {id : Nat} (h : Q (.exit id) st) : VW P (.exit id) Q st := fun _ _ _ hm ha => wp_exit (.here h hm ha rfl)
theorem vw_goto {id : Nat} (h : Q (.goto id) st) : VW P (.goto id) Q st := fun _ _ _ hm ha => wp_goto (.here h hm ha rfl)
theorem vw_ret (h : Q .ret st) : VW P .ret Q st := fun _ _ _ hm ha => wp_ret (.here h hm ha trivial)

def VExit.then (next : VSt → Prop) (Q : VExit → VSt → Prop) : VExit → VSt → Prop
  | .normal, st => next st
  | e, st => Q e st

@[simp] theorem VExit.then_normal (next : VSt → Prop) (Q : VExit → VSt → Prop) (st : VSt) : VExit.then next Q .normal st = next st := rfl
@[simp] theorem VExit.then_exit (next : VSt → Prop) (Q : VExit → VSt → Prop) (st : VSt) (i : Nat) : VExit.then next Q (.exit i) st = Q (.exit i) st := rfl
@[simp] theorem VExit.then_goto (next : VSt → Prop) (Q : VExit → VSt → Prop) (st : VSt) (i : Nat) : VExit.then next Q (.goto i) st = Q (.goto i) st := rfl
@[simp] theorem VExit.then_ret (next : VSt → Prop) (Q : VExit → VSt → Prop) (st : VSt) : VExit.then next Q .ret st = Q .ret st := rfl
@[simp] theorem VExit.then_panic (next : VSt → Prop) (Q : VExit → VSt → Prop) (st : VSt) (v : VVal) : VExit.then next Q (.panic v) st = Q (.panic v) st := rfl

/-- Two stretches, one behind the other. -/
theorem WPost.trans {st1 : VSt} {G G1 : Ghost} {w w1 : World} {D : List Deferred} (hm : MemOk st.mem G w) (t : Trans st.mem G w st1.mem G1 w1) {e : Exit} {a' : Act} {w' : World} (h : WPost st1 G1 w1 D Q e a' w') : WPost st G w D Q e a' w' := by
  obtain ⟨G', st', e', q, he, m, r, d, t'⟩ := h
  exact ⟨G', st', e', q, he, m, r, d, t.trans hm t'⟩

theorem vw_seq {x y : Code} (h : VW P x (VExit.then (VW P y Q) Q) st) : VW P (.seq x y) Q st := by
  intro G w a hm ha
  refine wp_seq (wp_mono (h G w a hm ha) ?_)
  rintro e a1 w1 ⟨G1, st1, e1, q, he, m1, r1, d1, t1⟩
  cases e <;> cases e1 <;> simp only [ExitRel] at he <;> simp only [Exit.then]
  · refine wp_mono (q G1 w1 a1 m1 r1) fun e a2 w2 h2 => ?_
    rw [d1] at h2
    exact h2.trans hm t1
  · exact ⟨G1, st1, _, q, he, m1, r1, d1, t1⟩
  · exact ⟨G1, st1, _, q, he, m1, r1, d1, t1⟩
  · exact ⟨G1, st1, _, q, he, m1, r1, d1, t1⟩
  · exact ⟨G1, st1, _, q, he, m1, r1, d1, t1⟩

theorem vw_cond {c : Operand} {x y : Code} {b : Bool} (hc : st.ev c = .bool b) (ht : b = true → VW P x Q st) (hf : b = false → VW P y Q st) : VW P (.cond c x y) Q st := by
  intro G w a hm ha
  have hcr := ha.ev c
  rw [hc] at hcr
  simp only [VRel] at hcr
  cases b
  · exact wp_cond_false hcr (hf rfl G w a hm ha)
  · exact wp_cond_true hcr (ht rfl G w a hm ha)

def VExit.inBlock (id : Nat) (Q : VExit → VSt → Prop) : VExit → VSt → Prop
  | .exit id', st => if id' = id then Q .normal st else Q (.exit id') st
  | e, st => Q e st

@[simp] theorem VExit.inBlock_normal (id : Nat) (Q : VExit → VSt → Prop) (st : VSt) : VExit.inBlock id Q .normal st = Q .normal st := rfl
@[simp] theorem VExit.inBlock_exit (id i : Nat) (Q : VExit → VSt → Prop) (st : VSt) : VExit.inBlock id Q (.exit i) st = if i = id then Q .normal st else Q (.exit i) st := rfl
@[simp] theorem VExit.inBlock_goto (id i : Nat) (Q : VExit → VSt → Prop) (st : VSt) : VExit.inBlock id Q (.goto i) st = Q (.goto i) st := rfl
@[simp] theorem VExit.inBlock_ret (id : Nat) (Q : VExit → VSt → Prop) (st : VSt) : VExit.inBlock id Q .ret st = Q .ret st := rfl
@[simp] theorem VExit.inBlock_panic (id : Nat) (Q : VExit → VSt → Prop) (st : VSt) (v : VVal) : VExit.inBlock id Q (.panic v) st = Q (.panic v) st := rfl

theorem vw_block {id : Nat} {c : Code} (h : VW P c (VExit.inBlock id Q) st) : VW P (.block id c) Q st := by
  intro G w a hm ha
  refine wp_block (wp_mono (h G w a hm ha) ?_)
  rintro e a1 w1 ⟨G1, st1, e1, q, he, m1, r1, d1, t1⟩
  cases e <;> cases e1 <;> simp only [ExitRel] at he <;> simp only [Exit.inBlock]
  · exact ⟨G1, st1, .normal, q, trivial, m1, r1, d1, t1⟩
  · subst he
    simp only [VExit.inBlock_exit] at q
    split
    · next e => rw [if_pos e] at q; exact ⟨G1, st1, .normal, q, trivial, m1, r1, d1, t1⟩
    · next e => rw [if_neg e] at q; exact ⟨G1, st1, .exit _, q, rfl, m1, r1, d1, t1⟩
  · exact ⟨G1, st1, _, q, he, m1, r1, d1, t1⟩
  · exact ⟨G1, st1, _, q, he, m1, r1, d1, t1⟩
  · exact ⟨G1, st1, _, q, he, m1, r1, d1, t1⟩

theorem wp_loop_idx {P : Program} {Q : Exit → Act → World → Prop} {c : Code} {a : Act} {w : World} (I : Nat → Act → World → Prop) {n : Nat} (h0 : I n a w)
    (round : ∀ n a w, I n a w → c.wp P (Exit.then (fun a' w' => ∃ m, m < n ∧ I m a' w') Q) a w) : (Code.loop c).wp P Q a w := by
  intro b k cs
  have key : ∀ n a w, I n a w → ∃ e a' w', Q e a' w' ∧ Arrives P (lone (b.at a (.code c :: .inLoop c :: k)) cs w) b k cs e a' w' := by
    intro n
    induction n using Nat.strongRecOn with
    | _ n ih =>
      intro a w hI
      obtain ⟨e, a1, w1, hq, harr⟩ := round n a w hI b (.inLoop c :: k) cs
      cases e with
      | normal =>
        obtain ⟨m, hlt, hI1⟩ := hq
        obtain ⟨e2, a2, w2, hq2, harr2⟩ := ih m hlt a1 w1 hI1
        exact ⟨e2, a2, w2, hq2, .of_steps (Steps.trans harr (.one step_inLoop)) harr2⟩
      | exit id => exact ⟨_, a1, w1, hq, .pass (x := .inLoop c) rfl (fun _ _ => .inl (by simp)) harr⟩
      | goto l => exact ⟨_, a1, w1, hq, .pass (x := .inLoop c) rfl (fun _ _ => .inl (by simp)) harr⟩
      | ret => exact ⟨_, a1, w1, hq, .pass (x := .inLoop c) rfl (fun _ _ => .inl (by simp)) harr⟩
      | panic ch => exact ⟨_, a1, w1, hq, .pass (x := .inLoop c) rfl (fun _ _ => .inl (by simp)) harr⟩
      | outgrown => exact ⟨_, a1, w1, hq, .pass (x := .inLoop c) rfl (fun _ _ => .inl (by simp)) harr⟩
  obtain ⟨e, a', w', hq, harr⟩ := key n a w h0
  exact ⟨e, a', w', hq, .of_steps (.one step_loop) harr⟩

/-- A loop: I holds at each round's head, with a measure that falls. -/
theorem vw_loop {c : Code} (I : Nat → VSt → Prop) {n : Nat} (h0 : I n st) (round : ∀ n st, I n st → VW P c (VExit.then (fun st' => ∃ m, m < n ∧ I m st') Q) st) : VW P (.loop c) Q st := by
  intro G w a hm ha
  refine wp_loop_idx (I := fun m a' w' => ∃ G' st', I m st' ∧ MemOk st'.mem G' w' ∧ ActRel st' G' a' ∧ a'.defers = a.defers ∧ Trans st.mem G w st'.mem G' w')
    (n := n) ⟨G, st, h0, hm, ha, rfl, Trans.refl _ G w⟩ ?_
  rintro m a1 w1 ⟨G1, st1, hI, m1, r1, d1, t1⟩
  refine wp_mono (round m st1 hI G1 w1 a1 m1 r1) ?_
  rintro e a2 w2 ⟨G2, st2, e2, q, he, m2, r2, d2, t2⟩
  rw [d1] at d2
  cases e <;> cases e2 <;> simp only [ExitRel] at he <;> simp only [Exit.then]
  · obtain ⟨m', hlt, hI'⟩ := q
    exact ⟨m', hlt, G2, st2, hI', m2, r2, d2, t1.trans hm t2⟩
  · exact ⟨G2, st2, _, q, he, m2, r2, d2, t1.trans hm t2⟩
  · exact ⟨G2, st2, _, q, he, m2, r2, d2, t1.trans hm t2⟩
  · exact ⟨G2, st2, _, q, he, m2, r2, d2, t1.trans hm t2⟩
  · exact ⟨G2, st2, _, q, he, m2, r2, d2, t1.trans hm t2⟩

/-- What is forgotten costs nothing: slots, boxes, heap objects. -/
structure VSt.Le (st0 st : VSt) : Prop where
  n : st0.n = st.n
  tm : ∀ k, st0.tm k = st.tm k ∨ st0.tm k = .undef
  bx : ∀ k, st0.bx k = st.bx k ∨ st0.bx k = none
  ob : ∀ o x, st0.h.ob o = some x → st.h.ob o = some x
  fm : ∀ t n, st0.h.fm t = some n → st.h.fm t = some n
  bd : ∀ n, st0.h.bd = some n → st.h.bd = some n
  gr : ∀ t vs, st0.h.gr t = some vs → st.h.gr t = some vs
  ty : ∀ k e, st0.h.ty k = some e → st.h.ty k = some e

theorem VSt.Le.sub {st0 st : VSt} (h : VSt.Le st0 st) : VMem.Sub st0.mem st.mem where
  ob := h.ob
  fm := h.fm
  bd := h.bd
  gr := h.gr
  ty := h.ty
  lc s v x e := by
    simp only [VSt.mem, lcOf] at e ⊢
    rcases h.bx s with hb | hb
    · rw [hb] at e; exact e
    · rw [hb] at e; cases e

theorem VSt.Le.act {st0 st : VSt} (h : VSt.Le st0 st) {G : Ghost} {a : Act} (ha : ActRel st G a) : ActRel st0 G a :=
  ⟨by rw [h.n]; exact ha.size, fun k => by
    rcases h.tm k with hk | hk
    · rw [hk]; exact ha.tm k
    · rw [hk]; simp [VRel]⟩

theorem vw_weaken {c : Code} {st0 : VSt} (hle : VSt.Le st0 st) (h : VW P c Q st0) : VW P c Q st := by
  intro G w a hm ha
  refine wp_mono (h G w a (hm.sub hle.sub) (hle.act ha)) ?_
  rintro e a' w' ⟨G', st', e', q, he, m, r, d, t⟩
  exact ⟨G', st', e', q, he, m, r, d, (Trans.sub G w hle.sub).trans hm t⟩

end rules
end Go.Pv

/- One operation, virtually, and a region in the text's order. -/
namespace Go.Pv

def VPut (st : VSt) (dst : Option Nat) (v : VVal) (next : VSt → Prop) : Prop :=
  match dst with
  | none => next st
  | some d => d < st.n ∧ next (st.put d v)

def VSt.setOb (st : VSt) (o : Nat) (x : VObj) : VSt := { st with h := { st.h with ob := upd st.h.ob o (some x) } }
def VSt.setFm (st : VSt) (t n : Nat) : VSt := { st with h := { st.h with fm := upd st.h.fm t (some n) } }
def VSt.setGr (st : VSt) (t : Nat) (vs : List VVal) : VSt := { st with h := { st.h with gr := upd st.h.gr t (some vs) } }
def VSt.setBx (st : VSt) (s ver : Nat) (vs : List VVal) : VSt := { st with bx := upd st.bx s (some (ver, vs)) }
def VSt.setTy (st : VSt) (k : Nat) (e : TypeId) : VSt := { st with h := { st.h with ty := upd st.h.ty k (some e) } }
/-- One name more is taken. -/
def VSt.bump (st : VSt) : VSt := { st with h := { st.h with bd := st.h.bd.map (· + 1) } }
/-- A name that is free. -/
def VSt.Free (st : VSt) (o : Nat) : Prop := ∀ n, st.h.bd = some n → o = n
def VSt.setH (st : VSt) (h : VHeap) : VSt := { st with h := h }

def VStore (P : Program) (st : VSt) (t : TypeId) (p x : VVal) (next : VSt → Prop) : Prop :=
  match layoutOf P t, vcells x with
  | some i, some cs => cs.length = i.size ∧ (match p with
    | .ptr o off => match st.h.ob o with
      | some (.cells vs) => off + cs.length ≤ vs.length ∧ next (st.setOb o (.cells (splice vs off cs)))
      | _ => False
    | .lptr s v off => match st.bx s with
      | some (v', vs) => v' = v ∧ off + cs.length ≤ vs.length ∧ next (st.setBx s v' (splice vs off cs))
      | none => False
    | .gptr t sz len off => match st.h.gr t with
      | some vs => vs.length = len * sz ∧ off + cs.length ≤ vs.length ∧ next (st.setGr t (splice vs off cs))
      | none => False
    | _ => False)
  | _, _ => False

/-- A new variable: a box of the frame's own, or (where the slot is among those that escape) a heap object. -/
def VNew (esc : Nat → Bool) (st : VSt) (dst : Option Nat) (E : TypeId) (cs : List VVal) (next : VSt → Prop) : Prop :=
  match dst with
  | none => False
  | some d => d < st.n ∧ (if esc d then ∀ o, st.h.ob o = none → st.Free o → next (((st.setOb o (.cells cs)).setTy o E).bump.put d (.ptr o 0))
    else ∀ ver, st.Free ver → next ((st.setBx d ver cs).bump.put d (.lptr d ver 0)))

/-- What an append puts on: cells, how many elements. -/
def vsource (str : Bool) : VVal → Option (List VVal × Nat)
  | .slice cells len _ => some (cells, len)
  | .str s => if str then some (byteCells s, s.length) else none
  | _ => none

/-- What is appended is a slice or a string (not 'make's length). -/
def plainSource (P : Program) (t : TypeId) : Bool :=
  match layoutOf P t with
  | some i => match i.shape with | .slice _ | .str => true | _ => false
  | none => false

def VAppend (P : Program) (st : VSt) (dst : Option Nat) (t xt : TypeId) (s x : VVal) (next : VSt → Prop) : Prop :=
  match layoutOf P t with
  | some i => match i.shape with
    | .slice e => match layoutOf P e, s with
      | some ei, .slice cells len cap => plainSource P xt = true ∧ match vsource (ei.shape == .int .u8) x with
        | some (xs, n) =>
          cells.length = len * ei.size ∧ xs.length = n * ei.size ∧ (len + n) * ei.bytes ≤ 140737488355328 ∧ len + n ≤ 140737488355328 ∧
          (if n = 0 then VPut st dst (.slice cells len cap) next else
            0 < ei.size ∧ (match ei.zero.bind vcells with | some zs => zs.length = ei.size | none => False) ∧ (match cap with
              | .exact c => c < len + n ∧ ∀ τ, st.h.fm τ = none → st.Free τ → VPut ((st.setFm τ (cells ++ xs).length).setTy τ e).bump dst (.slice (cells ++ xs) (len + n) (.tok τ ei.size)) next
              | .tok τ sz => sz = ei.size ∧ st.h.fm τ = some cells.length ∧ st.h.ty τ = some e ∧ VPut (st.setFm τ (cells ++ xs).length) dst (.slice (cells ++ xs) (len + n) (.tok τ ei.size)) next
              | .nil => ∀ τ, st.h.fm τ = none → st.Free τ → VPut ((st.setFm τ (cells ++ xs).length).setTy τ e).bump dst (.slice (cells ++ xs) (len + n) (.tok τ ei.size)) next
              | .any => False))
        | none => False
      | _, _ => False
    | _ => False
  | none => False

/-- append to a row that may be written over. -/
def VGrow (P : Program) (st : VSt) (dst : Option Nat) (t xt : TypeId) (s x : VVal) (next : VSt → Prop) : Prop :=
  match layoutOf P t with
  | some i => match i.shape with
    | .slice e => match layoutOf P e with
      | some ei => plainSource P xt = true ∧ match vsource (ei.shape == .int .u8) x with
        | some (xs, n) => xs.length = n * ei.size ∧ 0 < n ∧ 0 < ei.size ∧ (match ei.zero.bind vcells with | some zs => zs.length = ei.size | none => False) ∧ (match s with
          | .slice [] 0 .nil => n * ei.bytes ≤ 140737488355328 ∧ n ≤ 140737488355328 ∧ ∀ τ, st.h.fm τ = none → st.h.gr τ = none → st.Free τ → VPut ((st.setGr τ xs).setTy τ e).bump dst (.rslice τ ei.size n) next
          | .rslice τ sz len => sz = ei.size ∧ (len + n) * ei.bytes ≤ 140737488355328 ∧ len + n ≤ 140737488355328 ∧ (match st.h.gr τ with
            | some vs => vs.length = len * sz ∧ st.h.ty τ = some e ∧ VPut (st.setGr τ (vs ++ xs)) dst (.rslice τ sz (len + n)) next
            | none => False)
          | _ => False)
        | none => False
      | none => False
    | _ => False
  | none => False

def VCallOp (P : Program) (st : VSt) (dst : Option Nat) (f : VVal) (args : List VVal) (next : VSt → Prop) (Qp : VVal → VSt → Prop) : Prop :=
  match f with
  | .func (.func k) first captured => VCalls P k (first ++ args ++ captured) st.h fun out h' => match out with
    | .ret v => VPut (st.setH h') dst v next
    | .panic v => Qp v (st.setH h')
  | _ => False

def VMapPut (P : Program) (st : VSt) (t : TypeId) (m k v : VVal) (next : VSt → Prop) : Prop :=
  match layoutOf P t, m with
  | some i, .map (some o) => match i.shape, st.h.ob o with
    | .map kt _, some (.map es clock) => match layoutOf P kt with
      | some ki => keyFits (layoutOf P) ki k = true ∧ (match vfindIdx k es with
        | some (some j) => next (st.setOb o (.map (es.modify j fun e => { e with key := k, val := v }) clock))
        | some none => next (st.setOb o (.map (vins { key := k, val := v } es) (clock + 1)))
        | none => False)
      | none => False
    | _, _ => False
  | _, _ => False

/-- An iterator over a map. -/
def VRange (P : Program) (st : VSt) (dst : Option Nat) (t : TypeId) (x : VVal) (next : VSt → Prop) : Prop :=
  match layoutOf P t with
  | some i => match i.shape, x with
    | .map _ _, .map none => ∀ o, st.h.ob o = none → st.Free o → VPut (st.setOb o (.iter none 0)).bump dst (.ptr o 0) next
    | .map _ _, .map (some m) => match st.h.ob m with
      | some (.map _ clock) => ∀ o, st.h.ob o = none → st.Free o → VPut (st.setOb o (.iter (some m) clock)).bump dst (.ptr o 0) next
      | _ => False
    | _, _ => False
  | none => False

def VMakeSlice (P : Program) (st : VSt) (dst : Option Nat) (t : TypeId) (l c : VVal) (next : VSt → Prop) : Prop :=
  match layoutOf P t, l, c with
  | some i, .int _ ln, .int _ cn => match i.shape with
    | .slice e => match layoutOf P e with
      | some ei => 0 ≤ ln ∧ ln ≤ cn ∧ cn * ei.bytes ≤ 140737488355328 ∧ cn ≤ 140737488355328 ∧ (match ei.zero.bind vcells with
        | some zs => zs.length = ei.size ∧ ∀ o, st.h.ob o = none → st.Free o → VPut ((st.setOb o (.cells (repCells zs (cn.toNat * ei.size)))).setTy o e).bump dst (.mslice o 0 ln.toNat cn.toNat) next
        | none => False)
      | none => False
    | _ => False
  | _, _, _ => False

/-- One operation. -/
def VStep (P : Program) (esc : Nat → Bool) (st : VSt) (o : Oper) (next : VSt → Prop) (Qp : VVal → VSt → Prop) : Prop :=
  match o.op with
  | .store t a x => VStore P st t (st.ev a) (st.ev x) fun st' => VPut st' o.dst .undef next
  | .alloc e => match layoutOf P e with
    | some i => match i.zero.bind vcells with
      | some cs => VNew esc st o.dst e cs next
      | none => False
    | none => False
  | .box t x => match vcells (st.ev x) with
    | some cs => VNew esc st o.dst t cs next
    | none => False
  | .makeMap _ none => ∀ m, st.h.ob m = none → st.Free m → VPut (st.setOb m (.map [] 0)).bump o.dst (.map (some m)) next
  | .mapUpdate t m k v => VMapPut P st t (st.ev m) (st.ev k) (st.ev v) fun st' => VPut st' o.dst .undef next
  | .insert t m k v => VMapPut P st t (st.ev m) (st.ev k) (st.ev v) fun st' => VPut st' o.dst .undef next
  | .makeSlice t l c => VMakeSlice P st o.dst t (st.ev l) (st.ev c) next
  | .range t x => VRange P st o.dst t (st.ev x) next
  | .panic x => match st.ev x with
    | .iface t v => Qp (.iface t v) st
    | _ => False
  | .call { callee := .builtin .append, args, argTypes } => match args.toList, argTypes.toList with
    | [s, x], [t, xt] => VAppend P st o.dst t xt (st.ev s) (st.ev x) next ∨ VGrow P st o.dst t xt (st.ev s) (st.ev x) next
    | _, _ => False
  | .call { callee := .value f, args, .. } => VCallOp P st o.dst (st.ev f) (st.evs args.toList) next Qp
  | op => match st.light (layoutOf P) op with
    | some v => VPut st o.dst v next
    | none => False

/-- The operations of a region, in the text's order. -/
def VOps (P : Program) (esc : Nat → Bool) (ops : Array Oper) (Q : VExit → VSt → Prop) : List Oper → VSt → Prop
  | [], st => Q .normal st
  | o :: rest, st => match o.guard with
    | none => VStep P esc st o (fun st' => VOps P esc ops Q rest st') (fun v st' => Q (.panic v) st')
    | some (j, want) => match (ops[j]?).bind (·.dst) with
      | some d => match st.tm d with
        | .bool b => if b = want then VStep P esc st o (fun st' => VOps P esc ops Q rest st') (fun v st' => Q (.panic v) st') else VPut st o.dst (.tuple []) (fun st' => VOps P esc ops Q rest st')
        | .tuple _ => VPut st o.dst (.tuple []) (fun st' => VOps P esc ops Q rest st')
        | _ => False
      | none => False

end Go.Pv

/- One operation, virtually: sound. -/
namespace Go.Pv
variable {P : Program}

def NPost (st : VSt) (G : Ghost) (w : World) (D : List Deferred) (next : VSt → Prop) (a' : Act) (w' : World) : Prop :=
  ∃ G' st', next st' ∧ MemOk st'.mem G' w' ∧ ActRel st' G' a' ∧ a'.defers = D ∧ Trans st.mem G w st'.mem G' w'

def PPost (st : VSt) (G : Ghost) (w : World) (D : List Deferred) (Qp : VVal → VSt → Prop) (e : Exit) (a' : Act) (w' : World) : Prop :=
  ∃ G' st' v, Qp v st' ∧ ExitRel G' (.panic v) e ∧ MemOk st'.mem G' w' ∧ ActRel st' G' a' ∧ a'.defers = D ∧ Trans st.mem G w st'.mem G' w'

theorem put_defers (a : Act) (d : Option Nat) (v : Value) : (a.put d v).defers = a.defers := by cases d <;> rfl

theorem VSt.put_mem (st : VSt) (d : Nat) (v : VVal) : (st.put d v).mem = st.mem := rfl

theorem VPut.sound {st0 st : VSt} {G0 G : Ghost} {w0 w : World} {a : Act} {D : List Deferred} {dst : Option Nat} {v : VVal} {v' : Value} {next : VSt → Prop}
    (h : VPut st dst v next) (hm : MemOk st.mem G w) (ha : ActRel st G a) (hd : a.defers = D) (ht : Trans st0.mem G0 w0 st.mem G w) (hv : VRel G v v') : NPost st0 G0 w0 D next (a.put dst v') w := by
  cases dst with
  | none => exact ⟨G, st, h, hm, ha, hd, ht⟩
  | some d =>
    obtain ⟨h1, h2⟩ := h
    exact ⟨G, st.put d v, h2, hm, ha.put h1 hv, hd, ht⟩

section
variable {st : VSt} {G : Ghost} {w : World} {a : Act}

theorem setOb_mem (st : VSt) (o : Nat) (x : VObj) : (st.setOb o x).mem = { st.mem with ob := upd st.mem.ob o (some x) } := rfl
theorem setFm_mem (st : VSt) (o n : Nat) : (st.setFm o n).mem = { st.mem with fm := upd st.mem.fm o (some n) } := rfl

theorem ActRel.same {st' : VSt} (ha : ActRel st G a) (hn : st'.n = st.n) (ht : st'.tm = st.tm) : ActRel st' G a := ⟨by rw [hn]; exact ha.size, by rw [ht]; exact ha.tm⟩

theorem MemOk.free (hm : MemOk st.mem G w) : st.Free G.bound := fun n e => hm.bd n e

theorem setBx_sub (st : VSt) (s ver : Nat) (vs : List VVal) : VMem.Sub (st.setBx s ver vs).mem { st.mem with lc := updl st.mem.lc s ver (some vs) } where
  ob _ _ e := e
  fm _ _ e := e
  bd _ e := e
  gr _ _ e := e
  ty _ _ e := e
  lc s' v' x e := by
    simp only [VSt.setBx, VSt.mem, lcOf] at e
    by_cases hs : s' = s
    · subst hs
      simp only [upd_same] at e
      split at e
      · next hv => subst hv; simp [updl]; simpa using e
      · cases e
    · simp only [upd_ne _ _ hs] at e
      simp only [updl, hs, false_and, if_false]
      exact e

theorem bumpBx_sub (st : VSt) (s ver : Nat) (vs : List VVal) : VMem.Sub (st.setBx s ver vs).bump.mem { st.mem with lc := updl st.mem.lc s ver (some vs), bd := st.mem.bd.map (· + 1) } where
  ob _ _ e := e
  fm _ _ e := e
  bd _ e := e
  gr _ _ e := e
  ty _ _ e := e
  lc s' v' x e := (setBx_sub st s ver vs).lc s' v' x e

/-- A new variable. -/
theorem VNew.sound {esc : Nat → Bool} {dst : Option Nat} {cs : List VVal} {us : Array Value} {E : TypeId} {next : VSt → Prop} (h : VNew esc st dst E cs next) (hm : MemOk st.mem G w) (ha : ActRel st G a) (hr : VRels G cs us.toList) (ho : Ones us.toList) :
    NPost st G w a.defers next (a.put dst (.pointer (some ⟨w.heap.size, 0, none⟩))) (w.alloc (.cells us E)) := by
  unfold VNew at h
  split at h
  · exact h.elim
  · next d =>
    obtain ⟨hd, h⟩ := h
    split at h
    · have hfresh : st.h.ob G.bound = none := by
        cases e : st.h.ob G.bound with
        | none => rfl
        | some x =>
          have : ∃ b, G.kind b = .obj G.bound := by
            have := hm.ob G.bound x e
            cases x with
            | cells vs => obtain ⟨b, _, _, hk, _⟩ := this; exact ⟨b, hk⟩
            | map es cl => obtain ⟨b, _, hk, _⟩ := this; exact ⟨b, hk⟩
            | raw r => obtain ⟨b, hk, _⟩ := this; exact ⟨b, hk⟩
            | loop r => obtain ⟨b, _, hk, _⟩ := this; exact ⟨b, hk⟩
            | iter m s => obtain ⟨b, _, hk, _⟩ := this; exact ⟨b, hk⟩
          obtain ⟨b, hk⟩ := this
          have := hm.obB b _ hk
          omega
      obtain ⟨m1, t1⟩ := hm.pushCells cs us E hr ho
      refine ⟨_, _, h G.bound hfresh hm.free, m1, ?_, rfl, t1⟩
      refine ActRel.put (st := ((st.setOb G.bound (.cells cs)).setTy G.bound E).bump) ((ha.mono t1.ext).same rfl rfl) hd ?_
      simp only [VRel]
      exact ⟨w.heap.size, put_kind_same, rfl⟩
    · obtain ⟨m1, t1⟩ := hm.pushLoc d cs us E hr ho
      refine ⟨_, _, h G.bound hm.free, m1.sub (bumpBx_sub st d G.bound cs), ?_, rfl, t1.trans hm (Trans.sub _ _ (bumpBx_sub st d G.bound cs))⟩
      refine ActRel.put (st := (st.setBx d G.bound cs).bump) ((ha.mono t1.ext).same rfl rfl) hd ?_
      simp only [VRel]
      exact ⟨w.heap.size, put_kind_same, rfl⟩

theorem run_storeAt {t : TypeId} {i : TInfo} (hi : layoutOf P t = some i) {b off : Nat} {v : Value} {c : Array Value} {E : TypeId} (hc : v.cells.size = i.size) (hw : w.heap[b]? = some (.cells c E (0, 0))) (hl : off + v.cells.size ≤ c.size) (ho : Ones v.cells.toList) :
    (Instr.storeAt t (.pointer (some ⟨b, off, none⟩)) v).run P w = .ok () (setCells w b off v.cells.toList) := by
  obtain ⟨inf, d, h1, h2, _, _, h4, _, _⟩ := layout_info hi
  simp only [Instr.storeAt, Instr.sureAddr, Sem.run_bind, Sem.run_pure, Result.andThen_ok, storeVar, run_sizeOf' h1]
  rw [if_neg (by rw [hc, h4]; simp)]
  have := run_storeCells (P := P) v.cells.toList w b off 0 c E (0, 0) hw (by simp; exact hl) (.inr rfl) ho
  simpa using this

theorem VStore.sound {t : TypeId} {p x : VVal} {pv xv : Value} {next : VSt → Prop} (h : VStore P st t p x next) (hm : MemOk st.mem G w) (ha : ActRel st G a) (hp : VRel G p pv) (hx : VRel G x xv) :
    ∃ w' st', (Instr.storeAt t pv xv).run P w = .ok () w' ∧ next st' ∧ MemOk st'.mem G w' ∧ ActRel st' G a ∧ Trans st.mem G w st'.mem G w' := by
  unfold VStore at h
  split at h
  · next i cs hi hc =>
    obtain ⟨hcs, h⟩ := h
    obtain ⟨hr, ho⟩ := hx.cells hc
    have hlen := hr.length
    simp only [Array.length_toList] at hlen
    split at h
    · next o off =>
      split at h
      · next vs hob =>
        obtain ⟨hl, h⟩ := h
        obtain ⟨b, hk, ⟨c, E, hw, hsz⟩, m1, t1⟩ := hm.storeObj (o := o) hob hl hr ho
        simp only [VRel] at hp
        obtain ⟨b', hk', rfl⟩ := hp
        have := hm.obI b b' o hk hk'; subst this
        exact ⟨_, _, run_storeAt hi (by omega) hw (by omega) ho, h, m1, ha.same rfl rfl, t1⟩
      · exact h.elim
    · next s v off =>
      split at h
      · next v' vs hbx =>
        obtain ⟨rfl, hl, h⟩ := h
        have hlc : st.mem.lc s v' = some vs := by simp [VSt.mem, lcOf, hbx]
        obtain ⟨b, hk, ⟨c, E, hw, hsz⟩, m1, t1⟩ := hm.storeLoc hlc hl hr ho
        simp only [VRel] at hp
        obtain ⟨b', hk', rfl⟩ := hp
        have := hm.lcI b b' s v' hk hk'; subst this
        exact ⟨_, _, run_storeAt hi (by omega) hw (by omega) ho, h, m1.sub (setBx_sub st s v' _), ha.same rfl rfl, t1.trans hm (Trans.sub _ _ (setBx_sub st s v' _))⟩
      · exact h.elim
    · next gt sz len off =>
      split at h
      · next vs hgr =>
        obtain ⟨hvl, hl, h⟩ := h
        obtain ⟨b, total, hf, hk, ⟨c, E, hw, hsz⟩, m1, t1⟩ := hm.storeGrow (t := gt) hgr hl hr ho
        simp only [VRel] at hp
        obtain ⟨b', rfl, _, hgo⟩ := hp
        obtain ⟨_, hgo⟩ := hgo b _ hf
        obtain ⟨_, _, rfl⟩ := hgo hvl.symm
        exact ⟨_, _, run_storeAt hi (by omega) hw (by omega) ho, h, m1, ha.same rfl rfl, t1⟩
      · exact h.elim
    · exact h.elim
  · exact h.elim

/-- What is appended, really. -/
theorem vsource_rel {e : TypeId} {ei : TInfo} (_he : layoutOf P e = some ei) (hm : MemOk st.mem G w) {x : VVal} {xv : Value} (hx : VRel G x xv) {xs : List VVal} {n : Nat} (h : vsource (ei.shape == .int .u8) x = some (xs, n)) (hn : xs.length = n * ei.size) :
    (∃ us : Array Value, (Builtin.lenOf xv).run P w = .ok n w ∧ (∀ w', (∀ b : Nat, b < w.heap.size → w'.heap[b]? = w.heap[b]?) → (Builtin.firstCells ei.size n xv).run P w' = .ok us w') ∧ VRels G xs us.toList ∧ Ones us.toList) := by
  unfold vsource at h
  split at h
  · next cells len cap =>
    simp at h; obtain ⟨rfl, rfl⟩ := h
    simp only [VRel] at hx
    obtain ⟨a, rcap, rfl, hl, _, hc⟩ := hx
    rcases hc with hc | ⟨b, off, rc, total, rfl, hk, hlt, hrs⟩
    · subst hc
      refine ⟨#[], by simp [Builtin.lenOf], fun w' _ => ?_, by simp [VRels], Ones.nil⟩
      cases a with
      | none => simp [Builtin.firstCells]
      | some a =>
        simp at hn
        simp only [Builtin.firstCells]
        rw [show len * ei.size = 0 from hn.symm]
        rfl
    · obtain ⟨us, hus, hr, ho, hul, hcell, hload⟩ := slice_cells (P := P) hm hk hlt hrs
      refine ⟨us.toArray, by simp [Builtin.lenOf], fun w' hw' => ?_, by simpa using hr, by simpa using ho⟩
      simp only [Builtin.firstCells]
      have hbs := hm.lt b (by rw [hk]; simp)
      have := run_loadCells_list (P := P) w' ⟨b, off, none⟩ us (fun j u e => by
        rw [addr_add]
        have := hcell j u e
        simp only [World.cell?] at this ⊢
        rw [hw' b hbs]
        exact this)
      rw [hul, hn] at this
      exact this
  · next s =>
    split at h
    · next hsh =>
      simp at h; obtain ⟨rfl, rfl⟩ := h
      simp only [VRel] at hx; subst hx
      refine ⟨(s.map fun b => Value.int .u8 (b.toNat : Int)).toArray, by simp [Builtin.lenOf]; rfl, fun w' _ => ?_, ?_, ?_⟩
      · simp only [Builtin.firstCells, Sem.run_pure]
        congr 1
        rw [ByteArray.extract_mk]
        simp
      · simp only [byteCells]
        clear hn hsh
        induction s with
        | nil => simp [VRels]
        | cons c s ih => simp only [List.map_cons, VRels]; exact ⟨_, _, rfl, by simp [VRel], by simpa using ih⟩
      · intro y hy
        simp at hy
        obtain ⟨c, _, rfl⟩ := hy
        rfl
    · cases h
  · cases h

end
end Go.Pv

/- append, virtually: sound. -/
namespace Go.Pv
variable {P : Program}

section
variable {st : VSt} {G : Ghost} {w : World} {a : Act}

theorem fresh_fm (hm : MemOk st.mem G w) : st.h.fm G.bound = none := by
  cases e : st.h.fm G.bound with
  | none => rfl
  | some n =>
    obtain ⟨b, _, _, hf, _⟩ := hm.fm G.bound n e
    have := hm.fmB _ _ hf
    omega

theorem fresh_ob (hm : MemOk st.mem G w) : st.h.ob G.bound = none := by
  cases e : st.h.ob G.bound with
  | none => rfl
  | some x =>
    have : ∃ b, G.kind b = .obj G.bound := by
      have := hm.ob G.bound x e
      cases x with
      | cells vs => obtain ⟨b, _, _, hk, _⟩ := this; exact ⟨b, hk⟩
      | map es cl => obtain ⟨b, _, hk, _⟩ := this; exact ⟨b, hk⟩
      | raw r => obtain ⟨b, hk, _⟩ := this; exact ⟨b, hk⟩
      | loop r => obtain ⟨b, _, hk, _⟩ := this; exact ⟨b, hk⟩
      | iter m s => obtain ⟨b, _, hk, _⟩ := this; exact ⟨b, hk⟩
    obtain ⟨b, hk⟩ := this
    have := hm.obB b _ hk
    omega

theorem plainSource_desc {t : TypeId} (h : plainSource P t = true) : ∃ d, P.underlying t = some d ∧ (∀ k, d ≠ .int k) := by
  unfold plainSource at h
  split at h
  · next i hi =>
    obtain ⟨inf, d, _, h2, h3, _⟩ := layout_info hi
    refine ⟨d, h2, fun k e => ?_⟩
    subst e
    rw [h3] at h
    simp [shapeOf] at h
  · cases h

/-- append, where it goes in place. -/
theorem run_append_fits {t xt e : TypeId} {inf : TypeInfo} {d : TypeDesc} (h1 : P.underlying t = some (.slice e)) (h2 : P.info? e = some inf) (h3 : P.underlying xt = some d) (hd : ∀ k, d ≠ .int k)
    {base : Option Addr} {len rcap n : Nat} {xv : Value} {us : Array Value} (hn : (Builtin.lenOf xv).run P w = .ok n w) (hu : (Builtin.firstCells inf.size n xv).run P w = .ok us w) (hle : len + n ≤ rcap) (ty : TypeId) {w' : World}
    (hs : ∀ a, base = some a → (storeCells (a.add (len * inf.size)) us.toList).run P w = .ok () w') (hs' : base = none → w' = w) :
    (Builtin.append_ #[t, xt] ty #[.slice base len rcap, xv]).run P w = .ok (.slice base (len + n) rcap) w' := by
  have hz : (match d with | .int _ => true | _ => false) = false := by cases d <;> first | rfl | (exact absurd rfl (hd _))
  simp only [Builtin.append_, List.getElem?_toArray]
  simp only [List.getElem?_cons_zero, List.getElem?_cons_succ]
  simp only [Sem.run_bind, run_underlying h1, Result.andThen_ok, run_sizeOf' h2, run_underlying h3, Sem.run_pure]
  cases d
  case int k => exact absurd rfl (hd k)
  all_goals
    simp only [Bool.false_eq_true, if_false, Sem.run_bind, hn, Result.andThen_ok, if_pos hle, Bool.not_false, if_true, hu]
    cases base with
    | none => rw [hs' rfl]; rfl
    | some a => simp only [Sem.run_bind, hs a rfl, Result.andThen_ok, Sem.run_pure]

/-- append, where it takes a new row. -/
theorem run_append_grows {t xt e : TypeId} {inf : TypeInfo} {d : TypeDesc} {z : Value} (h1 : P.underlying t = some (.slice e)) (h2 : P.info? e = some inf) (h3 : P.underlying xt = some d) (hd : ∀ k, d ≠ .int k) (hz : inf.zero = some z)
    {base : Option Addr} {len rcap n : Nat} {xv : Value} {us old : Array Value} (hn : (Builtin.lenOf xv).run P w = .ok n w) (hu : (Builtin.firstCells inf.size n xv).run P w.drew = .ok us w.drew)
    (ho : (Builtin.firstCells inf.size len (.slice base len rcap)).run P w.drew = .ok old w.drew) (hgt : rcap < len + n) (hb : (len + n) * inf.bytes ≤ 140737488355328) (hb2 : len + n ≤ 140737488355328) (ty : TypeId) :
    ∃ (c : Nat) (rest : Array Value), len + n ≤ c ∧ rest.size = (c - (len + n)) * z.cells.size ∧
      (Builtin.append_ #[t, xt] ty #[.slice base len rcap, xv]).run P w = .ok (.slice (some ⟨w.heap.size, 0, none⟩) (len + n) c) (w.drew.alloc (.cells (old ++ us ++ rest) e)) := by
  refine ⟨(Question.appendCap (len + n) rcap e).cut (w.tape w.drawn (.appendCap (len + n) rcap e)), Builtin.zeroCells z.cells ((Question.appendCap (len + n) rcap e).cut (w.tape w.drawn (.appendCap (len + n) rcap e)) - (len + n)), by simp [Question.cut], by simp [Builtin.zeroCells], ?_⟩
  simp only [Builtin.append_, List.getElem?_toArray]
  simp only [List.getElem?_cons_zero, List.getElem?_cons_succ]
  simp only [Sem.run_bind, run_underlying h1, Result.andThen_ok, run_sizeOf' h2, run_underlying h3, Sem.run_pure]
  have hle : ¬ (len + n ≤ rcap) := by omega
  have hfit := growslice_fits (bytes := inf.bytes) hgt hb
  have hneg : ¬ (((len + n : Nat) : Int) > IntKind.i64.max ∧ (False ∨ inf.bytes = 0)) := by
    rw [IntKind.max_i64]; omega
  have hneg2 : ¬ (Builtin.nextslicecap (len + n) rcap * inf.bytes > 2 ^ 48) := by omega
  cases d
  case int k => exact absurd rfl (hd k)
  all_goals
    simp only [Bool.false_eq_true, if_false, Sem.run_bind, hn, Result.andThen_ok, if_neg hle, Bool.not_false, if_true, run_typeInfo' h2, if_neg hneg, if_neg hneg2, run_choose, Question.forced, World.drew_eq]
    simp only [run_askRoom, Result.andThen_ok, ho, hu, run_zeroValue h2 hz, newRow, Sem.run_bind, run_newObj, Sem.run_pure]
    rfl

theorem zero_cells (G0 : Ghost) {ei : TInfo} {e : TypeId} (he : layoutOf P e = some ei) {zs : List VVal} (hz : ei.zero.bind vcells = some zs) : ∃ inf z, P.info? e = some inf ∧ inf.zero = some z ∧ ei.size = inf.size ∧ ei.bytes = inf.bytes ∧ (∀ G, VRels G zs z.cells.toList) ∧ Ones z.cells.toList := by
  obtain ⟨inf, d, h1, _, _, _, h4, h5, h6⟩ := layout_info he
  simp only [Option.bind_eq_some_iff] at hz
  obtain ⟨zv, hzv, hzc⟩ := hz
  rw [h6, Option.map_eq_some_iff] at hzv
  obtain ⟨z, hz1, rfl⟩ := hzv
  exact ⟨inf, z, h1, hz1, h4, h5, fun G => ((ofConst_rel G z).cells hzc).1, ((ofConst_rel G0 z).cells hzc).2⟩

/-- The cells of a slice, loaded, in this world and in one of the same heap. -/
theorem slice_load (hm : MemOk st.mem G w) {cells : List VVal} {len size : Nat} {a : Option Addr} {rcap : Nat} (hl : cells.length = len * size)
    (hc : cells = [] ∨ ∃ b off rc total, a = some ⟨b, off, none⟩ ∧ G.kind b = .row rc total ∧ off + cells.length ≤ rc.length ∧ VRels G cells ((rc.drop off).take cells.length)) :
    ∃ us : Array Value, VRels G cells us.toList ∧ Ones us.toList ∧ ∀ w', w'.heap = w.heap → (Builtin.firstCells size len (.slice a len rcap)).run P w' = .ok us w' := by
  rcases hc with hc | ⟨b, off, rc, total, rfl, hk, hlt, hrs⟩
  · subst hc
    refine ⟨#[], by simp [VRels], Ones.nil, fun w' _ => ?_⟩
    cases a with
    | none => simp [Builtin.firstCells]
    | some a =>
      simp at hl
      simp only [Builtin.firstCells]
      rw [show len * size = 0 from hl.symm]
      rfl
  · obtain ⟨us, hus, hr, ho, hul, hcell, hload⟩ := slice_cells (P := P) hm hk hlt hrs
    refine ⟨us.toArray, by simpa using hr, by simpa using ho, fun w' hw' => ?_⟩
    simp only [Builtin.firstCells]
    have := run_loadCells_list (P := P) w' ⟨b, off, none⟩ us (fun j u e => by
      rw [addr_add]
      have := hcell j u e
      simp only [World.cell?] at this ⊢
      rw [hw']
      exact this)
    rw [hul, hl] at this
    exact this

theorem VAppend.sound {dst : Option Nat} {t xt : TypeId} {s x : VVal} {sv xv : Value} {next : VSt → Prop} (h : VAppend P st dst t xt s x next) (hm : MemOk st.mem G w) (ha : ActRel st G a) (hs : VRel G s sv) (hx : VRel G x xv) (ty : TypeId) :
    ∃ w' v', (Builtin.append_ #[t, xt] ty #[sv, xv]).run P w = .ok v' w' ∧ NPost st G w a.defers next (a.put dst v') w' := by
  unfold VAppend at h
  split at h
  case h_2 => exact h.elim
  rename_i i hi
  obtain ⟨inf, d, h1, h2, h3, _, _, _, _⟩ := layout_info hi
  split at h
  case h_2 => exact h.elim
  rename_i e hsh
  have := shape_slice (h3.symm.trans hsh); subst this
  split at h
  case h_2 => exact h.elim
  rename_i ei cells len cap he
  obtain ⟨hplain, h⟩ := h
  obtain ⟨xd, hxd, hxi⟩ := plainSource_desc hplain
  split at h
  case h_2 => exact h.elim
  rename_i xs n hsrc
  obtain ⟨hcl, hxl, hb, hb2, h⟩ := h
  obtain ⟨einf, ed, k1, k2, _, _, k4, k5, _⟩ := layout_info he
  obtain ⟨us, hlen, hfirst, hur, huo⟩ := vsource_rel (P := P) he hm hx hsrc hxl
  simp only [VRel] at hs
  obtain ⟨base, rcap, rfl, hlc, hcap, hc⟩ := hs
  have hul := hur.length
  simp only [Array.length_toList] at hul
  rw [k4] at hfirst hcl hxl
  rw [k5] at hb
  split at h
  · next hn0 =>
    subst hn0
    have hus : us = #[] := by apply Array.eq_empty_of_size_eq_zero; rw [Nat.zero_mul] at hxl; omega
    subst hus
    refine ⟨w, .slice base len rcap, ?_, h.sound hm ha rfl (Trans.refl _ G w) (by simp only [VRel]; exact ⟨base, rcap, rfl, hlc, hcap, hc⟩)⟩
    have := run_append_fits (P := P) (w := w) h2 k1 hxd hxi (base := base) (len := len) (rcap := rcap) hlen (hfirst w (fun _ _ => rfl)) (by omega) ty (w' := w) (fun _ _ => rfl) (fun _ => rfl)
    simpa using this
  · next hn0 =>
    obtain ⟨hpos, hzero, h⟩ := h
    split at hzero
    case h_2 => exact hzero.elim
    rename_i zs hzb
    obtain ⟨inf', z, q1, hz, q2, q3, hzr, hzo⟩ := zero_cells (P := P) G he hzb
    rw [k1] at q1; cases q1
    have hzl : z.cells.size = einf.size := by
      have := (hzr G).length
      simp only [Array.length_toList] at this
      omega
    obtain ⟨old, hor, hoo, holoads⟩ := slice_load (P := P) (rcap := rcap) hm hcl hc
    have hol := hor.length
    simp only [Array.length_toList] at hol
    have hxpos : 0 < xs.length := by rw [hxl, ← k4]; exact Nat.mul_pos (by omega) hpos
    -- a new row: what it gives
    have hgrow : ∀ (τ : Nat) (G' : Ghost) (w1 : World), rcap < len + n → ∀ (c : Nat) (rest : Array Value), len + n ≤ c → rest.size = (c - (len + n)) * z.cells.size →
        G'.kind w.heap.size = .row (old ++ us).toList (old ++ us ++ rest).size → G'.fam τ = some (w.heap.size, (old ++ us).toList.length) → τ < G'.bound → VRels G' (cells ++ xs) (old ++ us).toList →
        VRel G' (.slice (cells ++ xs) (len + n) (.tok τ ei.size)) (.slice (some ⟨w.heap.size, 0, none⟩) (len + n) c) := by
      intro τ G' w1 _ c rest hc1 hrest hkind hfam hτ hrel
      simp only [VRel]
      have hlens : (cells ++ xs).length = (old ++ us).size := by simp; omega
      refine ⟨_, _, rfl, hc1, ⟨hτ, fun b m hf => ?_⟩, .inr ⟨w.heap.size, 0, _, _, rfl, hkind, by simp; omega, ?_⟩⟩
      · rw [hfam] at hf
        simp at hf
        obtain ⟨rfl, rfl⟩ := hf
        refine ⟨by simp; omega, fun _ => ⟨rfl, _, _, hkind, ?_⟩⟩
        rw [k4]
        have e1 : (old ++ us ++ rest).size = (len + n) * einf.size + (c - (len + n)) * einf.size := by
          simp only [Array.size_append, hrest, hzl]
          rw [Nat.add_mul]; omega
        rw [e1, ← Nat.add_mul]
        exact Nat.mul_le_mul_right _ (by omega)
      · rw [List.drop_zero, hlens, ← Array.length_toList, List.take_length]
        exact hrel
    have hfirst' : (Builtin.firstCells einf.size n xv).run P w.drew = .ok us w.drew := hfirst _ (fun _ _ => rfl)
    have hold' := holoads w.drew rfl
    have hpre : ∀ rest : Array Value, (old ++ us).toList <+: (old ++ us ++ rest).toList := fun rest => ⟨rest.toList, by simp⟩
    have hones : Ones (old ++ us).toList := by simpa using hoo.append huo
    have hlenrow : (old ++ us).toList.length = (cells ++ xs).length := by simp; omega
    split at h
    · next cc =>
      obtain ⟨hlt, h⟩ := h
      simp only [CapOk] at hcap; subst hcap
      obtain ⟨c, rest, hc1, hrest, hrun⟩ := run_append_grows (P := P) (w := w) h2 k1 hxd hxi hz hlen hfirst' hold' hlt hb hb2 ty
      have hm' : MemOk st.mem G w.drew := hm.drew
      obtain ⟨G', m1, t1, hk1, hf1, hb1⟩ := hm'.pushFam (old ++ us).toList (old ++ us ++ rest) e (hpre rest) hones
      refine ⟨_, _, hrun, ?_⟩
      have t2 := (Trans.drew st.mem G w).trans hm t1
      have hp := h G.bound (fresh_fm hm) hm.free
      rw [hlenrow] at m1 t1 t2
      refine hp.sound (st := ((st.setFm G.bound (cells ++ xs).length).setTy G.bound e).bump) m1 ((ha.mono t1.ext).same rfl rfl) rfl t2 ?_
      exact hgrow G.bound G' w hlt c rest hc1 hrest hk1 hf1 hb1 (by simpa using (VRels.mono t1.ext hor).append (VRels.mono t1.ext hur))
    · next τ sz =>
      obtain ⟨rfl, hfm, hty, h⟩ := h
      obtain ⟨b0, rc0, total0, hf0, hk0, hn0'⟩ := hm.fm τ _ hfm
      obtain ⟨hτb, hcapf⟩ := hcap
      obtain ⟨_, hcapf2⟩ := hcapf b0 _ hf0
      obtain ⟨rfl, rc0', total0', hk0', hcap0⟩ := hcapf2 rfl
      rw [hk0] at hk0'; cases hk0'
      by_cases hfit : len + n ≤ rcap
      · -- in place
        obtain ⟨c, E, fr, hw, hsz, hpre0, hfr, hon0⟩ := hm.rows b0 rc0 total0 hk0
        have hroom : cells.length + us.toList.length ≤ total0 := by
          have : (len + n) * ei.size ≤ rcap * ei.size := Nat.mul_le_mul_right _ hfit
          rw [Nat.add_mul] at this
          simp only [Array.length_toList]
          rw [k4] at this hcap0
          omega
        obtain ⟨G', m1, t1, hk1, hf1, hb1⟩ := hm.extend hfm hf0 hk0 hn0' us.toList huo hroom (by simp only [Array.length_toList]; omega)
        have hstore : (storeCells (⟨b0, 0, none⟩ : Addr) us.toList (len * einf.size)).run P w = .ok () (setCells w b0 (0 + len * einf.size) us.toList) :=
          run_storeCells us.toList w b0 0 (len * einf.size) c E fr hw (by simp only [Array.length_toList] at hroom ⊢; omega) (.inl (by omega)) huo
        refine ⟨setCells w b0 cells.length us.toList, .slice (some ⟨b0, 0, none⟩) (len + n) rcap, ?_, ?_⟩
        · refine run_append_fits (P := P) (w := w) h2 k1 hxd hxi hlen (hfirst w (fun _ _ => rfl)) hfit ty (fun a ha' => ?_) (fun q => by cases q)
          cases ha'
          rw [addr_add]
          have := run_storeCells (P := P) us.toList w b0 (0 + len * einf.size) 0 c E fr hw (by simp only [Array.length_toList] at hroom ⊢; omega) (.inl (by omega)) huo
          rw [this]
          congr 2
          omega
        · have el : cells.length + us.toList.length = (cells ++ xs).length := by simp; omega
          rw [el] at m1 t1 hf1
          refine h.sound (st := st.setFm τ (cells ++ xs).length) m1 ((ha.mono t1.ext).same rfl rfl) rfl t1 ?_
          simp only [VRel]
          refine ⟨_, _, rfl, hfit, ⟨by rw [hb1]; exact hτb, fun b m hf => ?_⟩, .inr ⟨b0, 0, _, _, rfl, hk1, ?_, ?_⟩⟩
          · rw [hf1] at hf
            simp at hf
            obtain ⟨rfl, rfl⟩ := hf
            exact ⟨by simp, fun _ => ⟨rfl, _, _, hk1, hcap0⟩⟩
          · simp; omega
          · have e2 : (rc0 ++ us.toList).length = (cells ++ xs).length := by simp; omega
            rw [List.drop_zero, ← e2, List.take_length]
            refine VRels.append ?_ (VRels.mono t1.ext hur)
            rcases hc with hc | ⟨b, off, rc, total, hab, hk, hlt, hrs⟩
            · have : rc0 = [] := List.eq_nil_of_length_eq_zero (by rw [hn0', hc]; rfl)
              rw [hc, this]; simp [VRels]
            · cases hab
              rw [hk0] at hk; cases hk
              rw [List.drop_zero, ← hn0', List.take_length] at hrs
              exact VRels.mono t1.ext hrs
      · -- in a new row
        have hlt : rcap < len + n := by omega
        obtain ⟨c, rest, hc1, hrest, hrun⟩ := run_append_grows (P := P) (w := w) h2 k1 hxd hxi hz hlen hfirst' hold' hlt hb hb2 ty
        have hm' : MemOk st.mem G w.drew := hm.drew
        obtain ⟨G', m1, t1, hk1, hf1, hb1⟩ := hm'.moveFam hfm (old ++ us).toList (old ++ us ++ rest) e (hpre rest) hones (by rw [hlenrow]; simp; omega) (fun e' q => by rw [show st.mem.ty τ = some e from hty] at q; cases q; rfl)
        refine ⟨_, _, hrun, ?_⟩
        have t2 := (Trans.drew st.mem G w).trans hm t1
        rw [hlenrow] at m1 t1 t2
        refine h.sound (st := st.setFm τ (cells ++ xs).length) m1 ((ha.mono t1.ext).same rfl rfl) rfl t2 ?_
        exact hgrow τ G' w hlt c rest hc1 hrest hk1 hf1 (by rw [hb1]; exact hτb) (by simpa using (VRels.mono t1.ext hor).append (VRels.mono t1.ext hur))
    · simp only [CapOk] at hcap
      have hlt : rcap < len + n := by omega
      obtain ⟨c, rest, hc1, hrest, hrun⟩ := run_append_grows (P := P) (w := w) h2 k1 hxd hxi hz hlen hfirst' hold' hlt hb hb2 ty
      have hm' : MemOk st.mem G w.drew := hm.drew
      obtain ⟨G', m1, t1, hk1, hf1, hb1⟩ := hm'.pushFam (old ++ us).toList (old ++ us ++ rest) e (hpre rest) hones
      refine ⟨_, _, hrun, ?_⟩
      have t2 := (Trans.drew st.mem G w).trans hm t1
      have hp := h G.bound (fresh_fm hm) hm.free
      rw [hlenrow] at m1 t1 t2
      refine hp.sound (st := ((st.setFm G.bound (cells ++ xs).length).setTy G.bound e).bump) m1 ((ha.mono t1.ext).same rfl rfl) rfl t2 ?_
      exact hgrow G.bound G' w hlt c rest hc1 hrest hk1 hf1 hb1 (by simpa using (VRels.mono t1.ext hor).append (VRels.mono t1.ext hur))
    · exact h.elim

theorem fresh_gr (hm : MemOk st.mem G w) : st.h.gr G.bound = none := by
  cases e : st.h.gr G.bound with
  | none => rfl
  | some n =>
    obtain ⟨b, _, _, _, _, hf, _⟩ := hm.gr G.bound n e
    have := hm.fmB _ _ hf
    omega

theorem fresh_fam {M : VMem} (hm : MemOk M G w) : G.fam G.bound = none := by
  cases e : G.fam G.bound with
  | none => rfl
  | some p => have := hm.fmB _ _ e; omega

theorem VGrow.sound {dst : Option Nat} {t xt : TypeId} {s x : VVal} {sv xv : Value} {next : VSt → Prop} (h : VGrow P st dst t xt s x next) (hm : MemOk st.mem G w) (ha : ActRel st G a) (hs : VRel G s sv) (hx : VRel G x xv) (ty : TypeId) :
    ∃ w' v', (Builtin.append_ #[t, xt] ty #[sv, xv]).run P w = .ok v' w' ∧ NPost st G w a.defers next (a.put dst v') w' := by
  unfold VGrow at h
  split at h
  case h_2 => exact h.elim
  rename_i i hi
  obtain ⟨inf, d, h1, h2, h3, _, _, _, _⟩ := layout_info hi
  split at h
  case h_2 => exact h.elim
  rename_i e hsh
  have := shape_slice (h3.symm.trans hsh); subst this
  split at h
  case h_2 => exact h.elim
  rename_i ei he
  obtain ⟨hplain, h⟩ := h
  obtain ⟨xd, hxd, hxi⟩ := plainSource_desc hplain
  split at h
  case h_2 => exact h.elim
  rename_i xs n hsrc
  obtain ⟨hxl, hn0, hpos, hzero, h⟩ := h
  obtain ⟨einf, ed, k1, k2, _, _, k4, k5, _⟩ := layout_info he
  obtain ⟨us, hlen, hfirst, hur, huo⟩ := vsource_rel (P := P) he hm hx hsrc hxl
  split at hzero
  case h_2 => exact hzero.elim
  rename_i zs hzb
  obtain ⟨inf', z, q1, hz, q2, q3, hzr, hzo⟩ := zero_cells (P := P) G he hzb
  rw [k1] at q1; cases q1
  have hzl : z.cells.size = einf.size := by
    have := (hzr G).length
    simp only [Array.length_toList] at this
    omega
  have hul := hur.length
  simp only [Array.length_toList] at hul
  rw [k4] at hfirst hxl hpos
  have hfirst' : (Builtin.firstCells einf.size n xv).run P w.drew = .ok us w.drew := hfirst _ (fun _ _ => rfl)
  have hm' : MemOk st.mem G w.drew := hm.drew
  split at h
  · -- a new family
    obtain ⟨hb, hb2, h⟩ := h
    simp only [VRel, CapOk] at hs
    obtain ⟨_, _, rfl, _, ⟨rfl, rfl⟩, _⟩ := hs
    have hold : (Builtin.firstCells einf.size 0 (.slice none 0 0)).run P w.drew = .ok #[] w.drew := by simp [Builtin.firstCells]
    obtain ⟨c, rest, hc1, hrest, hrun⟩ := run_append_grows (P := P) (w := w) h2 k1 hxd hxi hz (len := 0) (rcap := 0) (base := none) hlen hfirst' hold (by omega) (by rw [Nat.zero_add, ← k5]; exact hb) (by omega) ty
    simp only [Nat.zero_add, Array.empty_append] at hrun hc1 hrest
    have htk : (us ++ rest).toList.take xs.length = us.toList := by
      rw [Array.toList_append, List.take_append_of_le_length (by simp; omega), List.take_of_length_le (by simp; omega)]
    obtain ⟨G', m1, t1, hk1, hf1, hb1⟩ := hm'.newGrow (t := G.bound) (bound := G.bound + 1) (nb := st.mem.bd.map (· + 1)) (vs := xs) (cs := us ++ rest) (E := e) (by rw [htk]; exact hur) (by rw [htk]; exact huo) (by simp; omega)
      (by omega) (by omega) hm.bump (fresh_fm hm) (fun b m hf => by rw [fresh_fam hm] at hf; cases hf) (.inr (Nat.le_refl _)) (fun b hk => by have := hm.obB b _ hk; omega) (.inr (Nat.le_refl _))
    refine ⟨_, _, hrun, ?_⟩
    have t2 := (Trans.drew st.mem G w).trans hm t1
    have hp := h G.bound (fresh_fm hm) (fresh_gr hm) hm.free
    refine hp.sound (st := ((st.setGr G.bound xs).setTy G.bound e).bump) m1 ((ha.mono t1.ext).same rfl rfl) rfl t2 ?_
    simp only [VRel]
    refine ⟨w.heap.size, c, rfl, hc1, by rw [hb1]; omega, fun b m hf => ?_⟩
    have : w.drew.heap.size = w.heap.size := rfl
    rw [hf1] at hf
    simp at hf
    obtain ⟨rfl, rfl⟩ := hf
    refine ⟨by rw [k4]; omega, fun _ => ⟨_, hk1, rfl, ?_⟩⟩
    rw [k4, Array.size_append, hrest, hzl]
    have e1 : c * einf.size = n * einf.size + (c - n) * einf.size := by rw [← Nat.add_mul]; congr 1; omega
    omega
  · -- one that is there
    next τ sz len =>
    obtain ⟨rfl, hb, hb2, h⟩ := h
    split at h
    case h_2 => exact h.elim
    rename_i vs hgr
    obtain ⟨hvl, hty, h⟩ := h
    simp only [VRel] at hs
    obtain ⟨b0, rcap, rfl, hlc, hτb, hgo⟩ := hs
    obtain ⟨b, total, cs, E, fr, g1, g2, g3, g4, g5, g6, g7, rfl⟩ := hm.gr τ vs hgr
    obtain ⟨_, hgo⟩ := hgo b _ g1
    obtain ⟨total', hk', rfl, hct⟩ := hgo hvl.symm
    rw [g2] at hk'; cases hk'
    rw [k4] at hvl hct
    have hE : E = e := by
      obtain ⟨_, _, q⟩ := hm.ty τ e hty
      obtain ⟨c0, fr0, hq⟩ := q b _ g1
      rw [g3] at hq; cases hq; rfl
    subst hE
    by_cases hfit : len + n ≤ rcap
    · have hroom : vs.length + us.toList.length ≤ total := by
        have : (len + n) * einf.size ≤ rcap * einf.size := Nat.mul_le_mul_right _ hfit
        rw [Nat.add_mul] at this
        simp only [Array.length_toList]
        omega
      have hsp : (splice cs.toList vs.length us.toList).take (vs ++ xs).length = cs.toList.take vs.length ++ us.toList := by
        unfold splice
        have : (vs ++ xs).length = (cs.toList.take vs.length ++ us.toList).length := by simp; omega
        rw [this, List.take_left']
        rfl
      obtain ⟨m1, t1⟩ := hm.writeGrow hgr (vs' := vs ++ xs) (off := vs.length) (us := us.toList) huo (by simp) g1 g2 g3 g4 hroom (by simp at hroom ⊢; omega)
        (by rw [hsp]; exact g6.append hur) (by rw [hsp]; exact g7.append huo)
      refine ⟨setCells w b vs.length us.toList, .slice (some ⟨b, 0, none⟩) (len + n) rcap, ?_, ?_⟩
      · refine run_append_fits (P := P) (w := w) h2 k1 hxd hxi hlen (hfirst w (fun _ _ => rfl)) hfit ty (fun a ha' => ?_) (fun q => by cases q)
        cases ha'
        rw [addr_add]
        have := run_storeCells (P := P) us.toList w b (0 + len * einf.size) 0 cs E (0, 0) g3 (by simp only [Array.length_toList] at hroom ⊢; omega) (.inr rfl) huo
        rw [this]
        congr 2
        omega
      · refine h.sound (st := st.setGr τ (vs ++ xs)) m1 ((ha.mono t1.ext).same rfl rfl) rfl t1 ?_
        simp only [VRel]
        refine ⟨b, rcap, rfl, hfit, hτb, fun b' m hf => ?_⟩
        simp at hf
        obtain ⟨rfl, rfl⟩ := hf
        refine ⟨by rw [k4, Nat.add_mul]; omega, fun _ => ⟨total, g2, rfl, by rw [k4]; exact hct⟩⟩
    · have hlt : rcap < len + n := by omega
      have hload : (Builtin.firstCells einf.size len (.slice (some ⟨b, 0, none⟩) len rcap)).run P w.drew = .ok (cs.toList.take vs.length).toArray w.drew := by
        simp only [Builtin.firstCells]
        have := run_loadCells_list (P := P) w.drew ⟨b, 0, none⟩ (cs.toList.take vs.length) (fun j u e => by
          rw [addr_add]
          have g3' : w.drew.heap[b]? = some (.cells cs E (0, 0)) := g3
          simp only [World.cell?, g3', Nat.zero_add]
          rw [List.getElem?_take] at e
          split at e
          · simpa using e
          · cases e)
        rw [List.length_take, Nat.min_eq_left (by simp; omega)] at this
        rw [← hvl]
        exact this
      obtain ⟨c, rest, hc1, hrest, hrun⟩ := run_append_grows (P := P) (w := w) h2 k1 hxd hxi hz hlen hfirst' hload hlt (by rw [← k5]; exact hb) hb2 ty
      have htk : ((cs.toList.take vs.length).toArray ++ us ++ rest).toList.take (vs ++ xs).length = cs.toList.take vs.length ++ us.toList := by
        have e1 : ((cs.toList.take vs.length).toArray ++ us ++ rest).toList = (cs.toList.take vs.length ++ us.toList) ++ rest.toList := by simp
        have e2 : (vs ++ xs).length = (cs.toList.take vs.length ++ us.toList).length := by simp; omega
        rw [e1, e2, List.take_left']
        rfl
      obtain ⟨G', m1, t1, hk1, hf1, hb1⟩ := hm'.newGrow (t := τ) (bound := G.bound) (nb := st.mem.bd) (vs := vs ++ xs) (cs := (cs.toList.take vs.length).toArray ++ us ++ rest) (E := E) (by rw [htk]; exact g6.append hur) (by rw [htk]; exact g7.append huo) (by simp; omega)
        hτb (Nat.le_refl _) hm.bd (by
          cases e : st.mem.fm τ with
          | none => rfl
          | some n0 =>
            obtain ⟨b2, rc2, total2, f1, kk1, _⟩ := hm.fm τ n0 e
            rw [g1] at f1; cases f1
            rw [g2] at kk1; cases kk1) (fun b' m hf => by rw [g1] at hf; cases hf; simp; rw [hxl]; exact Nat.mul_pos hn0 hpos) (.inl (by rw [show st.mem.gr τ = some vs from hgr]; simp))
          (fun b' hk => by obtain ⟨_, q, _⟩ := hm.ty τ E hty; obtain ⟨c0, fr0, hq⟩ := q b' hk; exact ⟨c0, fr0, hq⟩) (.inl (by rw [show st.mem.ty τ = some E from hty]; simp))
      refine ⟨_, _, hrun, ?_⟩
      have t2 := (Trans.drew st.mem G w).trans hm t1
      have hsub : VMem.Sub (st.setGr τ (vs ++ xs)).mem { st.mem with gr := upd st.mem.gr τ (some (vs ++ xs)), bd := st.mem.bd, ty := upd st.mem.ty τ (some E) } :=
        ⟨fun _ _ e => e, fun _ _ _ e => e, fun _ _ e => e, fun _ e => e, fun _ _ e => e, fun k q hq => by
          by_cases hk : k = τ
          · subst hk
            rw [show (st.setGr k (vs ++ xs)).mem.ty k = some E from hty] at hq; cases hq
            simp
          · simp only [upd_ne _ _ hk]; exact hq⟩
      refine h.sound (st := st.setGr τ (vs ++ xs)) (m1.sub hsub) ((ha.mono t1.ext).same rfl rfl) rfl (t2.trans hm (Trans.sub _ _ hsub)) ?_
      simp only [VRel]
      refine ⟨w.heap.size, c, rfl, hc1, by rw [hb1]; exact hτb, fun b' m hf => ?_⟩
      have : w.drew.heap.size = w.heap.size := rfl
      rw [hf1] at hf
      simp only [Option.some.injEq, Prod.mk.injEq] at hf
      obtain ⟨rfl, rfl⟩ := hf
      refine ⟨by rw [k4, Nat.add_mul]; simp; omega, fun _ => ⟨_, hk1, rfl, ?_⟩⟩
      rw [k4]
      have e1 : ((cs.toList.take vs.length).toArray ++ us ++ rest).size = (len + n) * einf.size + (c - (len + n)) * einf.size := by
        simp only [Array.size_append, hrest, hzl]
        rw [Nat.add_mul]; simp; omega
      rw [e1, ← Nat.add_mul]
      exact Nat.mul_le_mul_right _ (by omega)
  · exact h.elim

end
end Go.Pv

/- Maps, make, calls; every operation; a region in the text's order. -/
namespace Go.Pv
variable {P : Program}

section
variable {st : VSt} {G : Ghost} {w : World} {a : Act}

theorem sameBits_key {G : Ghost} {k : VVal} {v v' : Value} (hk : VRel G k v) (hk' : VRel G k v') {L : TypeId → Option TInfo} {i : TInfo} (hf : keyFits L i k = true) : v' = v ∧ Instr.sameBits 10000 v v = true := by
  have prim : ∀ (n : Nat) {sh : VShape} {x : VVal} {u u' : Value}, primFits sh x = true → VRel G x u → VRel G x u' → u' = u ∧ Instr.sameBits n u u = true := by
    intro n sh x u u' hp hu hu'
    cases x
    case bool b => simp only [VRel] at hu hu'; subst hu hu'; exact ⟨rfl, by simp [Instr.sameBits]⟩
    case int q b => simp only [VRel] at hu hu'; subst hu hu'; exact ⟨rfl, by simp [Instr.sameBits]⟩
    case str s => simp only [VRel] at hu hu'; subst hu hu'; exact ⟨rfl, by simp [Instr.sameBits, beq_toListBytes]⟩
    all_goals (cases sh <;> simp [primFits] at hp)
  unfold keyFits at hf
  split at hf
  · next cs =>
    split at hf
    · next fs hs =>
      simp only [Bool.and_eq_true] at hf
      simp only [VRel] at hk hk'
      obtain ⟨c, rfl, hc, _⟩ := hk
      obtain ⟨c', rfl, hc', _⟩ := hk'
      have key : ∀ (fs : List FInfo) (n : Nat) (cs : List VVal) (us us' : List Value), fieldsFit L fs n cs = true → VRels G cs us → VRels G cs us' → us' = us ∧ (us.zip us).all (fun (x, y) => Instr.sameBits 9999 x y) = true := by
        intro fs
        induction fs with
        | nil =>
          intro n cs us us' hfit h1 h2
          cases cs with
          | nil => simp only [VRels] at h1 h2; subst h1 h2; exact ⟨rfl, rfl⟩
          | cons a l => simp [fieldsFit] at hfit
        | cons f fs ih =>
          intro n cs us us' hfit h1 h2
          cases cs with
          | nil => simp [fieldsFit] at hfit
          | cons a l =>
            simp only [fieldsFit, Bool.and_eq_true] at hfit
            simp only [VRels] at h1 h2
            obtain ⟨y, ys, rfl, hy, hys⟩ := h1
            obtain ⟨z, zs, rfl, hz, hzs⟩ := h2
            have hp := hfit.1.2
            split at hp
            · obtain ⟨e1, e2⟩ := prim 9999 hp hy hz
              obtain ⟨e3, e4⟩ := ih _ _ _ _ hfit.2 hys hzs
              subst e1 e3
              exact ⟨rfl, by simp [e2, e4]⟩
            · cases hp
      obtain ⟨e1, e2⟩ := key _ _ _ _ _ hf.2 hc hc'
      have e1' := Array.toList_inj.1 e1
      subst e1'
      refine ⟨rfl, ?_⟩
      show Instr.sameBits (9999 + 1) _ _ = true
      unfold Instr.sameBits
      simpa using e2
    · cases hf
  · exact prim 10000 hf hk hk'

theorem VMapPut.sound {t : TypeId} {m k v : VVal} {mv kv vv : Value} {next : VSt → Prop} (h : VMapPut P st t m k v next) (hm : MemOk st.mem G w) (ha : ActRel st G a) (hmr : VRel G m mv) (hkr : VRel G k kv) (hvr : VRel G v vv) :
    ∃ w' st', (Instr.mapUpdate t mv kv vv).run P w = .ok () w' ∧ next st' ∧ MemOk st'.mem G w' ∧ ActRel st' G a ∧ Trans st.mem G w st'.mem G w' := by
  unfold VMapPut at h
  split at h
  case h_2 => exact h.elim
  rename_i i o hi
  obtain ⟨inf, d, h1, h2, h3, _, _, _, _⟩ := layout_info hi
  split at h
  case h_2 => exact h.elim
  rename_i kt et es clock hsh hob
  have := shape_map (h3.symm.trans hsh); subst this
  split at h
  case h_2 => exact h.elim
  rename_i ki hki
  obtain ⟨kinf, kd, k1, k2, k3, _, _, _, _⟩ := layout_info hki
  obtain ⟨hf, h⟩ := h
  have hck : ∀ b, (Instr.checkKey b 10000 kt kv).run P w = .ok () w := fun b => checkKey_fits hki hf hkr b w
  obtain ⟨b, res, hk, hw, hr⟩ := hm.ob o _ hob
  simp only [VRel] at hmr
  obtain ⟨b', hk', rfl⟩ := hmr
  have := hm.obI b b' o hk hk'; subst this
  have hblt : b < w.heap.size := hm.lt b (by rw [hk]; simp)
  have hg : (getObj b).run P w = .ok (.map res clock) w := by simp [getObj, Sem.run, hw]
  have hset : ∀ O, (setObj b O).run P w = .ok () { w with heap := w.heap.setIfInBounds b O } := fun O => by simp [setObj, Sem.run, hw]
  have hput : ∀ (es' : List VEnt) (res' : Array MapEntry) (clock' : Nat), MapRel G es' res' clock' → next (st.setOb o (.map es' clock')) →
      ∃ st', next st' ∧ MemOk st'.mem G { w with heap := w.heap.setIfInBounds b (.map res' clock') } ∧ ActRel st' G a ∧ Trans st.mem G w st'.mem G { w with heap := w.heap.setIfInBounds b (.map res' clock') } := by
    intro es' res' clock' hr' hnext
    obtain ⟨m1, t1⟩ := hm.putObj (o := o) hob hk (.map es' clock') (.map res' clock') (fun c E fr q => by rw [hw] at q; cases q) ⟨b, res', hk, by simp [hblt], hr'⟩
    exact ⟨_, hnext, m1, ha.same rfl rfl, t1⟩
  split at h
  · next j hj =>
    obtain ⟨e, r, l1, l2, g1, g2, g3, g4, g5, g6, t1, t2, g7, g8, g9⟩ := hr.found hj
    have hfk : (Instr.findKey kt kv res.toList).run P w = .ok (some (l1.length, r.val)) w := by rw [g4]; exact findKey_some hki hf hkr w g5 g6
    obtain ⟨st', q1, q2, q3, q4⟩ := hput _ _ clock (hr.over hj hkr hvr g4 g7 g8 g9) h
    refine ⟨_, st', ?_, q1, q2, q3, q4⟩
    have hg0' : res[l1.length]? = some r := by
      have : res.toList[l1.length]? = some r := by rw [g4]; simp
      simpa using this
    have hrk : VRel G k r.key := by rw [← g2]; exact g3.1
    obtain ⟨e1, e2⟩ := sameBits_key hkr hrk hf
    have hold : ((res[l1.length]?).map (·.key)).getD kv = kv := by rw [hg0']; simpa using e1
    simp only [Instr.mapUpdate, Sem.run_bind, run_underlying h2, Result.andThen_ok, hg, hck, hfk, hold, Instr.keyThatStays, e2, if_true, Sem.run_pure, hset]
  · next hj =>
    have hfk : (Instr.findKey kt kv res.toList).run P w = .ok none w := findKey_none hki hf hkr w (hr.lacks hj)
    obtain ⟨st', q1, q2, q3, q4⟩ := hput _ _ (clock + 1) (hr.more hj hkr hvr) h
    refine ⟨_, st', ?_, q1, q2, q3, q4⟩
    simp only [Instr.mapUpdate, Sem.run_bind, run_underlying h2, Result.andThen_ok, hg, hck, hfk, hset]
  · exact h.elim

/-- An iterator over a map. -/
theorem VRange.sound {dst : Option Nat} {t : TypeId} {x : VVal} {xv : Value} {next : VSt → Prop} (h : VRange P st dst t x next) (hm : MemOk st.mem G w) (ha : ActRel st G a) (hx : VRel G x xv) :
    ∃ w' v', (Instr.range t xv).run P w = .ok v' w' ∧ NPost st G w a.defers next (a.put dst v') w' := by
  unfold VRange at h
  split at h
  case h_2 => exact h.elim
  rename_i i hi
  obtain ⟨inf, d, h1, h2, h3, _, _, _, _⟩ := layout_info hi
  split at h
  · next kt et hsh =>
    have := shape_map (h3.symm.trans hsh); subst this
    simp only [VRel] at hx; subst hx
    obtain ⟨m1, t1⟩ := hm.pushObj (.iter none 0) (.mapIter none 0 #[] 0) (fun G' _ hk => ⟨w.heap.size, _, hk, heap_push_new w _, rfl⟩)
    refine ⟨w.alloc (.mapIter none 0 #[] 0), .pointer (some ⟨w.heap.size, 0, none⟩), by simp [Instr.range, run_underlying h2], ?_⟩
    exact (h G.bound (fresh_ob hm) hm.free).sound (st := (st.setOb G.bound (.iter none 0)).bump) m1 ((ha.mono t1.ext).same rfl rfl) rfl t1 (by simp only [VRel]; exact ⟨w.heap.size, put_kind_same, rfl⟩)
  · next kt et m hsh =>
    have := shape_map (h3.symm.trans hsh); subst this
    split at h
    · next es clock ho =>
      simp only [VRel] at hx
      obtain ⟨b, hk, rfl⟩ := hx
      obtain ⟨b', res, hk', hw, hr⟩ := hm.ob m _ ho
      have := hm.obI b b' m hk hk'; subst this
      have hg : (getObj b).run P w = .ok (.map res clock) w := by simp [getObj, Sem.run, hw]
      obtain ⟨m1, t1⟩ := hm.pushObj (.iter (some m) clock) (.mapIter (some b) clock #[] clock) (fun G' he hk' => ⟨w.heap.size, _, hk', heap_push_new w _, b, he.obj _ _ hk, rfl⟩)
      refine ⟨w.alloc (.mapIter (some b) clock #[] clock), .pointer (some ⟨w.heap.size, 0, none⟩), ?_, ?_⟩
      · simp only [Instr.range, Sem.run_bind, run_underlying h2, Result.andThen_ok, hg, Sem.run_pure]
        rfl
      · exact (h G.bound (fresh_ob hm) hm.free).sound (st := (st.setOb G.bound (.iter (some m) clock)).bump) m1 ((ha.mono t1.ext).same rfl rfl) rfl t1 (by simp only [VRel]; exact ⟨w.heap.size, put_kind_same, rfl⟩)
    · exact h.elim
  · exact h.elim

/-- make of a slice. -/
theorem VMakeSlice.sound {dst : Option Nat} {t : TypeId} {l c : VVal} {lv cv : Value} {next : VSt → Prop} (h : VMakeSlice P st dst t l c next) (hm : MemOk st.mem G w) (ha : ActRel st G a) (hl : VRel G l lv) (hc : VRel G c cv) :
    ∃ w' v', (Instr.makeSlice t lv cv).run P w = .ok v' w' ∧ NPost st G w a.defers next (a.put dst v') w' := by
  unfold VMakeSlice at h
  split at h
  case h_2 => exact h.elim
  rename_i i k1 ln k2 cn hi
  obtain ⟨inf, d, h1, h2, h3, _, _, _, _⟩ := layout_info hi
  simp only [VRel] at hl hc; subst hl hc
  split at h
  case h_2 => exact h.elim
  rename_i e hsh
  have := shape_slice (h3.symm.trans hsh); subst this
  split at h
  case h_2 => exact h.elim
  rename_i ei he
  obtain ⟨b1, b2, b3, b4, h⟩ := h
  split at h
  case h_2 => exact h.elim
  rename_i zs hzb
  obtain ⟨hzl, h⟩ := h
  obtain ⟨einf, z, q1, hz, q2, q3, hzr, hzo⟩ := zero_cells (P := P) G he hzb
  have hwl : IntKind.i64.wrap ln = ln := by unfold IntKind.wrap; simp [IntKind.bits, IntKind.signed]; omega
  have hwc : IntKind.i64.wrap cn = cn := by unfold IntKind.wrap; simp [IntKind.bits, IntKind.signed]; omega
  rw [q3] at b3
  -- the row
  have hrow : ∃ zr : Array Value, ((cn.toNat * einf.size = 0 ∧ zr = #[]) ∨ (cn.toNat * einf.size ≠ 0 ∧ zr = z.cells)) ∧
      VRels G (repCells zs (cn.toNat * ei.size)) ((Array.range (cn.toNat * einf.size)).map (fun i => zr[i % zr.size]!)).toList ∧ Ones ((Array.range (cn.toNat * einf.size)).map (fun i => zr[i % zr.size]!)).toList := by
    rw [q2]
    by_cases q : cn.toNat * einf.size = 0
    · refine ⟨#[], .inl ⟨q, rfl⟩, ?_⟩
      rw [q]
      simp [repCells, VRels, Ones]
    · refine ⟨z.cells, .inr ⟨q, rfl⟩, ?_⟩
      refine repCells_rel (hzr G) hzo _ (fun _ hzs => q ?_)
      subst hzs
      rw [← q2, ← hzl]
      simp
  obtain ⟨zr, hzrun, hzrel, hzones⟩ := hrow
  obtain ⟨m1, t1⟩ := hm.pushCells _ _ e hzrel hzones
  refine ⟨_, .slice (some ⟨w.heap.size, 0, none⟩) ln.toNat cn.toNat, ?_, (h G.bound (fresh_ob hm) hm.free).sound (st := ((st.setOb G.bound (.cells (repCells zs (cn.toNat * ei.size)))).setTy G.bound e).bump) m1 ((ha.mono t1.ext).same rfl rfl) rfl t1 (by simp only [VRel]; exact ⟨w.heap.size, put_kind_same, rfl⟩)⟩
  have hsmall : ¬ ((decide (cn < 0) || decide ((einf.bytes : Int) * cn > 2 ^ 48)) = true) := by
    have : (einf.bytes : Int) * cn = cn * einf.bytes := Int.mul_comm _ _
    simp only [Bool.or_eq_true, decide_eq_true_eq]
    rw [this]
    omega
  simp only [Instr.makeSlice, Sem.run_bind, run_underlying h2, Result.andThen_ok, asInt, asIntOf, Sem.run_pure, run_typeInfo' q1, hwl, hwc]
  rw [if_neg (by simp only [Bool.or_eq_true, decide_eq_true_eq] at hsmall ⊢; omega)]
  simp only [Sem.run_bind, run_askRoom, Result.andThen_ok, run_sizeOf' q1]
  rcases hzrun with ⟨q, rfl⟩ | ⟨q, rfl⟩
  · rw [if_pos q]
    simp [newRow]
  · rw [if_neg q]
    simp [newRow, run_zeroValue q1 hz]

/-! ### The kit's own rules, weakened -/

theorem Oper.wp_mono {o : Oper} {a : Act} {w : World} {next next' : Act → World → Prop} {Q Q' : Exit → Act → World → Prop} (h : o.wp P a w next Q) (hn : ∀ a w, next a w → next' a w) (hq : ∀ e a w, Q e a w → Q' e a w) : o.wp P a w next' Q' := by
  unfold Oper.wp at h ⊢
  cases hr : (execOp a.eval o).run P w with
  | ok x w1 =>
    rw [hr] at h
    cases x <;> simp only [Oper.upon] at h ⊢
    case value v => exact hn _ _ h
    case skip => exact hn _ _ h
    case defer d => exact hn _ _ h
    case enter f args =>
      refine h.mono fun e w2 he => ?_
      cases e with
      | returned v => exact hn _ _ he
      | panicked c => exact hq _ _ _ he
      | outgrown => obtain ⟨a0, w0, q⟩ := he; exact ⟨a0, w0, hq _ _ _ q⟩
    case row row args => exact h.mono fun v w2 q => hn _ _ q
  | halt x w1 =>
    rw [hr] at h
    cases x <;> simp only [Oper.upon] at h ⊢
    exact hq _ _ _ h

theorem wpOps_mono {ops : Array Oper} {Q Q' : Exit → Act → World → Prop} (hq : ∀ e a w, Q e a w → Q' e a w) : ∀ {l : List Nat} {a : Act} {w : World}, wpOps P ops Q l a w → wpOps P ops Q' l a w
  | [], _, _, h => hq _ _ _ h
  | i :: rest, a, w, h => by
    simp only [wpOps] at h ⊢
    split
    · next ho => rw [ho] at h; exact wpOps_mono hq h
    · next o ho =>
      rw [ho] at h
      simp only at h
      split
      · next hw =>
        rw [if_pos hw] at h
        rcases h with h | ⟨h1, a0, w0, h2⟩
        · exact .inl (Oper.wp_mono h (fun _ _ q => wpOps_mono hq q) hq)
        · exact .inr ⟨h1, a0, w0, hq _ _ _ h2⟩
      · next hw => rw [if_neg hw] at h; exact wpOps_mono hq h

/-! ### Calls -/

/-- A callee does not touch the frame's own boxes. -/
theorem MemOk.frame {M M' : VMem} {G G' : Ghost} {w w' : World} (hm : MemOk M G w) (hm' : MemOk M' G' w') (_hlc : M'.lc = fun _ _ => none) (t : Trans { M with lc := fun _ _ => none } G w M' G' w') :
    MemOk { M' with lc := M.lc } G' w' ∧ Trans M G w { M' with lc := M.lc } G' w' := by
  refine ⟨{ hm' with lc := fun s v vs e => ?_ }, { t with dlc := fun s v e => .inl e, keep := fun b hb hn => t.keep b hb (fun ha => hn ?_) }⟩
  · obtain ⟨b, cs, E, hk, hw, hr⟩ := hm.lc s v vs e
    have hlt := hm.lt b (by rw [hk]; simp)
    obtain ⟨k1, k2⟩ := t.keep b hlt (by simp [Acc, hk])
    exact ⟨b, cs, E, by rw [k2]; exact hk, by rw [k1]; exact hw, VRels.mono t.ext hr.1, hr.2⟩
  · unfold Acc at ha ⊢
    cases hk : G.kind b with
    | free => rw [hk] at ha; exact ha
    | obj o => rw [hk] at ha; exact ha
    | loc s v => rw [hk] at ha; exact absurd rfl ha
    | row rc total => rw [hk] at ha; exact ha
    | grow t total => rw [hk] at ha; exact ha

theorem setH_mem (st : VSt) (h : VHeap) : (st.setH h).mem = { h.mem with lc := st.mem.lc } := rfl

theorem heap_sub (st : VSt) : VMem.Sub st.h.mem st.mem := ⟨fun _ _ e => e, fun _ _ _ e => (by cases e), fun _ _ e => e, fun _ e => e, fun _ _ e => e, fun _ _ e => e⟩

/-- Behind a call, in the caller's frame. -/
theorem CallPost.back {h' : VHeap} {G' : Ghost} {w' : World} (hm : MemOk st.mem G w) (ha : ActRel st G a) (hm' : MemOk h'.mem G' w') (t : Trans st.h.mem G w h'.mem G' w') :
    MemOk (st.setH h').mem G' w' ∧ ActRel (st.setH h') G' a ∧ Trans st.mem G w (st.setH h').mem G' w' := by
  obtain ⟨m1, t1⟩ := MemOk.frame (M := st.mem) (M' := h'.mem) hm hm' rfl t
  exact ⟨m1, (ha.mono t.ext).same rfl rfl, t1⟩

theorem step_sound {esc : Nat → Bool} {o : Oper} {next : VSt → Prop} {Qp : VVal → VSt → Prop} (h : VStep P esc st o next Qp) (hm : MemOk st.mem G w) (ha : ActRel st G a) :
    o.wp P a w (NPost st G w a.defers next) (PPost st G w a.defers Qp) := by
  obtain ⟨dst, op, type, pos, after, guard⟩ := o
  unfold Oper.wp
  unfold VStep at h
  simp only at h
  split at h
  case h_1 t p x =>
    obtain ⟨w', st', hrun, hn, m1, a1, t1⟩ := VStore.sound (P := P) h hm ha (ha.ev p) (ha.ev x)
    have e : (execOp a.eval { dst, op := .store t p x, type, pos, after, guard }).run P w = .ok .skip w' := by simp [execOp, hrun]
    rw [e, Oper.upon_skip]
    exact hn.sound m1 a1 rfl t1 (by simp [VRel])
  case h_2 t =>
    split at h
    case h_2 => exact h.elim
    rename_i i hi
    split at h
    case h_2 => exact h.elim
    rename_i cs hcs
    obtain ⟨inf, z, q1, hz, q2, q3, hzr, hzo⟩ := zero_cells (P := P) G hi hcs
    have e : (execOp a.eval { dst, op := .alloc t, type, pos, after, guard }).run P w = .ok (.value (.pointer (some ⟨w.heap.size, 0, none⟩))) (w.alloc (.cells z.cells t)) := by
      simp [execOp, Instr.alloc, run_zeroValue q1 hz, newVar, newRow]
    rw [e, Oper.upon_value]
    exact h.sound hm ha (hzr G) hzo
  case h_3 t x =>
    split at h
    case h_2 => exact h.elim
    rename_i cs hcs
    obtain ⟨hr, ho⟩ := (ha.ev x).cells hcs
    have e : (execOp a.eval { dst, op := .box t x, type, pos, after, guard }).run P w = .ok (.value (.pointer (some ⟨w.heap.size, 0, none⟩))) (w.alloc (.cells (a.eval x).cells t)) := by
      simp [execOp, Instr.box, newVar, newRow]
    rw [e, Oper.upon_value]
    exact h.sound hm ha hr ho
  case h_4 t =>
    obtain ⟨m1, t1⟩ := hm.pushObj (.map [] 0) (.map #[] 0) (fun G' _ hk => ⟨w.heap.size, #[], hk, heap_push_new w _, ⟨[], rfl, List.Perm.refl _, List.Pairwise.nil, by simp, by simp⟩⟩)
    have e : (execOp a.eval { dst, op := .makeMap t none, type, pos, after, guard }).run P w = .ok (.value (.map (some w.heap.size))) (w.alloc (.map #[] 0)) := by
      simp [execOp, Instr.makeMap]
    rw [e, Oper.upon_value]
    exact (h G.bound (fresh_ob hm) hm.free).sound (st := (st.setOb G.bound (.map [] 0)).bump) m1 ((ha.mono t1.ext).same rfl rfl) rfl t1 (by simp only [VRel]; exact ⟨w.heap.size, put_kind_same, rfl⟩)
  case h_5 t m k v =>
    obtain ⟨w', st', hrun, hn, m1, a1, t1⟩ := VMapPut.sound (P := P) h hm ha (ha.ev m) (ha.ev k) (ha.ev v)
    have e : (execOp a.eval { dst, op := .mapUpdate t m k v, type, pos, after, guard }).run P w = .ok .skip w' := by simp [execOp, hrun]
    rw [e, Oper.upon_skip]
    exact hn.sound m1 a1 rfl t1 (by simp [VRel])
  case h_6 t m k v =>
    obtain ⟨w', st', hrun, hn, m1, a1, t1⟩ := VMapPut.sound (P := P) h hm ha (ha.ev m) (ha.ev k) (ha.ev v)
    have e : (execOp a.eval { dst, op := .insert t m k v, type, pos, after, guard }).run P w = .ok .skip w' := by simp [execOp, hrun]
    rw [e, Oper.upon_skip]
    exact hn.sound m1 a1 rfl t1 (by simp [VRel])
  case h_7 t l c =>
    obtain ⟨w', v', hrun, hn⟩ := VMakeSlice.sound (P := P) h hm ha (ha.ev l) (ha.ev c)
    have e : (execOp a.eval { dst, op := .makeSlice t l c, type, pos, after, guard }).run P w = .ok (.value v') w' := by simp [execOp, hrun]
    rw [e, Oper.upon_value]
    exact hn
  case h_8 t x =>
    obtain ⟨w', v', hrun, hn⟩ := VRange.sound (P := P) h hm ha (ha.ev x)
    have e : (execOp a.eval { dst, op := .range t x, type, pos, after, guard }).run P w = .ok (.value v') w' := by simp [execOp, hrun]
    rw [e, Oper.upon_value]
    exact hn
  case h_9 x =>
    split at h
    case h_2 => exact h.elim
    rename_i t v hx
    have hr := ha.ev x
    rw [hx] at hr
    have hr' := hr
    simp only [VRel] at hr
    obtain ⟨y, hy, _⟩ := hr
    have e : (execOp a.eval { dst, op := .panic x, type, pos, after, guard }).run P w = .halt (.panic (.iface t y)) w := by simp [execOp, hy, Instr.panic]
    rw [e, Oper.upon_panic]
    rw [hy] at hr'
    exact ⟨G, st, _, h, ⟨hr', rfl, rfl⟩, hm, ha, rfl, Trans.refl _ G w⟩
  case h_10 args argTypes =>
    split at h
    case h_2 => exact h.elim
    rename_i s x t xt e1 e2
    have e1' : args = #[s, x] := by rw [← Array.toList_inj, e1]
    have e2' : argTypes = #[t, xt] := by rw [← Array.toList_inj, e2]
    subst e1' e2'
    obtain ⟨w', v', hrun, hn⟩ : ∃ w' v', (Builtin.append_ #[t, xt] type #[a.eval s, a.eval x]).run P w = .ok v' w' ∧ NPost st G w a.defers next (a.put dst v') w' := by
      rcases h with h | h
      · exact VAppend.sound (P := P) h hm ha (ha.ev s) (ha.ev x) type
      · exact VGrow.sound (P := P) h hm ha (ha.ev s) (ha.ev x) type
    have e : (execOp a.eval { dst, op := .call { callee := .builtin .append, args := #[s, x], argTypes := #[t, xt] }, type, pos, after, guard }).run P w = .ok (.value v') w' := by
      simp [execOp, resolve, invoke, builtin, hrun]
    rw [e, Oper.upon_value]
    exact hn
  case h_11 f args argTypes =>
    unfold VCallOp at h
    split at h
    case h_2 => exact h.elim
    rename_i k first captured hf
    have hr := ha.ev f
    rw [hf] at hr
    simp only [VRel] at hr
    obtain ⟨fa, ca, hfe, hfr, hcr⟩ := hr
    have hargs : VRels G (first ++ st.evs args.toList ++ captured) (fa ++ args.map a.eval ++ ca).toList := by
      simp only [Array.toList_append, Array.toList_map]
      exact (hfr.append (ha.evs _)).append hcr
    have e : (execOp a.eval { dst, op := .call { callee := .value f, args, argTypes }, type, pos, after, guard }).run P w = (callFunc k (fa ++ args.map a.eval ++ ca)).run P w := by
      simp [execOp, resolve, invoke, hfe, Deferred.ofValue]
    rw [e]
    have up : ∀ en w', CallPost st.h G w (fun out h' => match out with | .ret v => VPut (st.setH h') dst v next | .panic v => Qp v (st.setH h')) en w' →
        (match en with
          | .returned v => NPost st G w a.defers next (a.put dst v) w'
          | .panicked chain => PPost st G w a.defers Qp (.panic chain) a w'
          | .outgrown => LetsOut (PPost st G w a.defers Qp)) := by
      rintro en w' ⟨G', h', out, hq, he, m1, t1⟩
      obtain ⟨m2, a2, t2⟩ := CallPost.back hm ha m1 t1
      cases out with
      | ret v =>
        cases en with
        | returned v' => exact VPut.sound hq m2 a2 rfl t2 he
        | panicked chain => exact he.elim
        | outgrown => exact he.elim
      | panic v =>
        cases en with
        | returned v' => exact he.elim
        | panicked chain =>
          cases chain with
          | nil => exact he.elim
          | cons x l =>
            cases l with
            | nil => exact ⟨G', _, v, hq, he, m2, a2, rfl, t2⟩
            | cons _ _ => exact he.elim
        | outgrown => exact he.elim
    rcases h G w _ (hm.sub (heap_sub st)) hargs with ⟨h1, h2⟩ | ⟨v', w', h1, h2⟩
    · rw [h1, Oper.upon_enter]
      refine h2.mono fun en w' hc => ?_
      have := up en w' hc
      cases en <;> exact this
    · rw [h1, Oper.upon_value]
      exact up (.returned v') w' h2
  case h_12 =>
    split at h
    · next v hv =>
      obtain ⟨G', w', v', hrun, hr, m1, t1⟩ := light_sound (P := P) (o := { dst, op, type, pos, after, guard }) hm ha hv
      rw [hrun, Oper.upon_value]
      exact h.sound m1 (ha.mono t1.ext) rfl t1 hr
    · exact h.elim

/-! ### A region in the text's order -/

theorem NPost.bind {st1 : VSt} {G1 : Ghost} {w1 : World} {D : List Deferred} (hm : MemOk st.mem G w) (t : Trans st.mem G w st1.mem G1 w1) {Q : VExit → VSt → Prop} {e : Exit} {a' : Act} {w' : World} (h : WPost st1 G1 w1 D Q e a' w') : WPost st G w D Q e a' w' :=
  h.trans hm t

theorem yielded_of {ops : Array Oper} {j d : Nat} (hd : (ops[j]?).bind (·.dst) = some d) {b : Bool} (ha : ActRel st G a) (hb : st.tm d = .bool b) : yielded ops a.tmps j = some b := by
  have hr := ha.tm d
  rw [hb] at hr
  simp only [VRel] at hr
  have hg : a.tmps[d]? = some (.bool b) := by
    rw [Array.getD_eq_getD_getElem?] at hr
    cases e : a.tmps[d]? with
    | none => rw [e] at hr; simp [undef] at hr
    | some v => rw [e] at hr; simpa using hr
  simp [yielded, hd, hg]

theorem yielded_none {ops : Array Oper} {j d : Nat} (hd : (ops[j]?).bind (·.dst) = some d) {vs : List VVal} (ha : ActRel st G a) (hb : st.tm d = .tuple vs) : yielded ops a.tmps j = none := by
  have hr := ha.tm d
  rw [hb] at hr
  simp only [VRel] at hr
  obtain ⟨c, hr, _⟩ := hr
  simp only [yielded, hd, Option.bind_some]
  rw [Array.getD_eq_getD_getElem?] at hr
  cases e : a.tmps[d]? with
  | none => rfl
  | some v => rw [e] at hr; simp at hr; subst hr; rfl

theorem ops_sound {esc : Nat → Bool} {ops : Array Oper} {Q : VExit → VSt → Prop} : ∀ (l : List Oper) (k : Nat), ops.toList.drop k = l → ∀ (st : VSt) (G : Ghost) (w : World) (a : Act), VOps P esc ops Q l st → MemOk st.mem G w → ActRel st G a →
    wpOps P ops (WPost st G w a.defers Q) (List.range' k l.length) a w
  | [], k, _, st, G, w, a, h, hm, ha => ⟨G, st, .normal, h, trivial, hm, ha, rfl, Trans.refl _ G w⟩
  | o :: rest, k, hk, st, G, w, a, h, hm, ha => by
    have ho : ops[k]? = some o := by
      have : ops.toList[k]? = some o := by
        have := congrArg List.head? hk
        simpa [List.head?_drop] using this
      simpa using this
    have hrest : ops.toList.drop (k + 1) = rest := by
      rw [← List.drop_drop, hk]; rfl
    have go : ∀ st1 G1 w1 (a1 : Act), VOps P esc ops Q rest st1 → MemOk st1.mem G1 w1 → ActRel st1 G1 a1 → a1.defers = a.defers → Trans st.mem G w st1.mem G1 w1 → wpOps P ops (WPost st G w a.defers Q) (List.range' (k + 1) rest.length) a1 w1 := by
      intro st1 G1 w1 a1 h1 m1 r1 d1 t1
      have ih := ops_sound rest (k + 1) hrest st1 G1 w1 a1 h1 m1 r1
      rw [d1] at ih
      exact wpOps_mono (fun e a' w' hq => hq.trans hm t1) ih
    have run : VStep P esc st o (fun st' => VOps P esc ops Q rest st') (fun v st' => Q (.panic v) st') →
        o.wp P a w (wpOps P ops (WPost st G w a.defers Q) (List.range' (k + 1) rest.length)) (WPost st G w a.defers Q) := by
      intro hs
      refine Oper.wp_mono (step_sound (P := P) hs hm ha) ?_ ?_
      · rintro a1 w1 ⟨G1, st1, hn, m1, r1, d1, t1⟩
        exact go st1 G1 w1 a1 hn m1 r1 d1 t1
      · rintro e a1 w1 ⟨G1, st1, v, hq, he, m1, r1, d1, t1⟩
        exact ⟨G1, st1, .panic v, hq, he, m1, r1, d1, t1⟩
    simp only [List.length_cons, List.range'_succ, wpOps, ho]
    simp only [VOps] at h
    split at h
    · next hg =>
      have hw : Region.wanted o (yielded ops a.tmps) = true := by simp [Region.wanted, hg]
      rw [if_pos hw]
      exact .inl (run h)
    · next j want hg =>
      split at h
      · next d hd =>
        split at h
        · next b hb =>
          have hy := yielded_of hd ha hb
          split at h
          · next e =>
            have hw : Region.wanted o (yielded ops a.tmps) = true := by simp [Region.wanted, hg, hy, e]
            rw [if_pos hw]
            exact .inl (run h)
          · next e =>
            have hw : ¬ Region.wanted o (yielded ops a.tmps) = true := by simp [Region.wanted, hg, hy, e]
            rw [if_neg hw]
            obtain ⟨G1, st1, hn, m1, r1, d1, t1⟩ := h.sound (v' := undef) hm ha rfl (Trans.refl _ G w) (by simp [VRel, VRels, undef])
            exact go st1 G1 w _ hn m1 r1 d1 t1
        · next vs hb =>
          have hy := yielded_none hd ha hb
          have hw : ¬ Region.wanted o (yielded ops a.tmps) = true := by simp [Region.wanted, hg, hy]
          rw [if_neg hw]
          obtain ⟨G1, st1, hn, m1, r1, d1, t1⟩ := h.sound (v' := undef) hm ha rfl (Trans.refl _ G w) (by simp [VRel, VRels, undef])
          exact go st1 G1 w _ hn m1 r1 d1 t1
        · exact h.elim
      · exact h.elim

theorem vw_region {esc : Nat → Bool} {id : Nat} {ops : Array Oper} {Q : VExit → VSt → Prop} {st : VSt} (h : VOps P esc ops Q ops.toList st) : VW P (.region id ops false) Q st := by
  intro G w a hm ha
  refine wp_region ?_
  have := ops_sound (P := P) ops.toList 0 (by simp) st G w a h hm ha
  rw [List.range_eq_range', ← Array.length_toList]
  exact this

end
end Go.Pv
