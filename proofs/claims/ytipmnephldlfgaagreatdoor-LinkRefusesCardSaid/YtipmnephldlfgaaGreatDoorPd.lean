/-
  An evaluator of programs over virtual values, sound for every program of the model. No condition.
-/
import Derived.Test.YtipmnephldlfgaaGreatDoorPc
import Derived.Test.YtipmnephldlfgaaGreatDoorPb
import Derived.Laws.Externs

/- Tries, and what the evaluator forces. -/
namespace Go.Pv

inductive T (α : Type) where
  | leaf
  | node (v : Option α) (l r : T α)

noncomputable def bsel {α : Type} (b : Bool) (t f : α) : α := Bool.rec (motive := fun _ => α) f t b
theorem bsel_true {α : Type} (t f : α) : bsel true t f = t := rfl
theorem bsel_false {α : Type} (t f : α) : bsel false t f = f := rfl

noncomputable def T.get {α : Type} (t : T α) : Nat → Option α :=
  T.rec (motive := fun _ => Nat → Option α) (fun _ => none)
    (fun v _ _ gl gr k => bsel (Nat.beq k 0) v (bsel (Nat.beq (Nat.mod k 2) 0) (gl (Nat.div k 2)) (gr (Nat.div k 2)))) t

noncomputable def T.one {α : Type} (x : α) (f : Nat) : Nat → T α :=
  Nat.rec (motive := fun _ => Nat → T α) (fun _ => .leaf)
    (fun _ ih k => bsel (Nat.beq k 0) (.node (some x) .leaf .leaf) (bsel (Nat.beq (Nat.mod k 2) 0) (.node none (ih (Nat.div k 2)) .leaf) (.node none .leaf (ih (Nat.div k 2))))) f

noncomputable def T.putK {α R : Type} (x : α) (t : T α) : Nat → (T α → R) → R :=
  T.rec (motive := fun _ => Nat → (T α → R) → R) (fun k K => K (T.one x (k + 1) k))
    (fun v l r gl gr k K => bsel (Nat.beq k 0) (K (.node (some x) l r)) (bsel (Nat.beq (Nat.mod k 2) 0) (gl (Nat.div k 2) fun l' => K (.node v l' r)) (gr (Nat.div k 2) fun r' => K (.node v l r')))) t

noncomputable def T.put {α : Type} (x : α) (t : T α) (k : Nat) : T α := T.putK x t k id

theorem bsel_zero {α : Type} (k : Nat) (t f : α) : bsel (Nat.beq k 0) t f = if k = 0 then t else f := by
  cases k <;> rfl
theorem bsel_even {α : Type} (k : Nat) (t f : α) : bsel (Nat.beq (Nat.mod k 2) 0) t f = if k % 2 = 0 then t else f := bsel_zero _ _ _

theorem T.putK_node {α R : Type} (x : α) (v : Option α) (l r : T α) (k : Nat) (K : T α → R) : (T.node v l r).putK x k K =
    bsel (Nat.beq k 0) (K (.node (some x) l r)) (bsel (Nat.beq (Nat.mod k 2) 0) (l.putK x (Nat.div k 2) fun l' => K (.node v l' r)) (r.putK x (Nat.div k 2) fun r' => K (.node v l r'))) := rfl

theorem T.putK_eq' {α : Type} (x : α) (t : T α) : ∀ (R : Type) (k : Nat) (K : T α → R), t.putK x k K = K (t.put x k) := by
  unfold T.put
  induction t with
  | leaf => intro R k K; rfl
  | node v l r ihl ihr =>
    intro R k K
    rw [T.putK_node, T.putK_node]
    cases Nat.beq k 0 with
    | true => rfl
    | false =>
      simp only [bsel_false]
      cases Nat.beq (Nat.mod k 2) 0 with
      | true => simp only [bsel_true]; exact (ihl R _ (fun l' => K (T.node v l' r))).trans (congrArg K (ihl (T α) _ (fun l' => T.node v l' r)).symm)
      | false => simp only [bsel_false]; exact (ihr R _ (fun r' => K (T.node v l r'))).trans (congrArg K (ihr (T α) _ (fun r' => T.node v l r')).symm)

theorem T.putK_eq {α R : Type} (x : α) (t : T α) (k : Nat) (K : T α → R) : t.putK x k K = K (t.put x k) := T.putK_eq' x t R k K

theorem T.get_node {α : Type} (v : Option α) (l r : T α) (k : Nat) : (T.node v l r).get k = if k = 0 then v else if k % 2 = 0 then l.get (k / 2) else r.get (k / 2) := by
  rw [← bsel_zero, ← bsel_even]; rfl

theorem T.one_succ {α : Type} (x : α) (f k : Nat) : T.one x (f + 1) k = if k = 0 then .node (some x) .leaf .leaf else if k % 2 = 0 then .node none (T.one x f (k / 2)) .leaf else .node none .leaf (T.one x f (k / 2)) := by
  rw [← bsel_zero, ← bsel_even]; rfl

theorem T.put_node {α : Type} (x : α) (v : Option α) (l r : T α) (k : Nat) : (T.node v l r).put x k = if k = 0 then .node (some x) l r else if k % 2 = 0 then .node v (l.put x (k / 2)) r else .node v l (r.put x (k / 2)) := by
  unfold T.put
  rw [T.putK_node, T.putK_eq, T.putK_eq, bsel_zero, bsel_even]; rfl

theorem T.get_one {α : Type} (x : α) : ∀ (f k k' : Nat), k < f → (T.one x f k).get k' = if k' = k then some x else none := by
  intro f
  induction f with
  | zero => intro k k' h; omega
  | succ f ih =>
    intro k k' h
    have hleaf : ∀ j, (T.leaf : T α).get j = none := fun _ => rfl
    rw [T.one_succ]
    by_cases hk : k = 0
    · rw [if_pos hk, T.get_node]; subst hk
      simp only [hleaf, ite_self]
    · rw [if_neg hk]
      by_cases h2 : k % 2 = 0
      · rw [if_pos h2, T.get_node, ih (k / 2) (k' / 2) (by omega), hleaf]
        by_cases e : k' = k
        · subst e; rw [if_neg hk, if_pos h2, if_pos rfl, if_pos rfl]
        · rw [if_neg e]
          by_cases e0 : k' = 0
          · rw [if_pos e0]
          · rw [if_neg e0]
            by_cases e2 : k' % 2 = 0
            · rw [if_pos e2, if_neg (by omega)]
            · rw [if_neg e2]
      · rw [if_neg h2, T.get_node, ih (k / 2) (k' / 2) (by omega), hleaf]
        by_cases e : k' = k
        · subst e; rw [if_neg hk, if_neg h2, if_pos rfl, if_pos rfl]
        · rw [if_neg e]
          by_cases e0 : k' = 0
          · rw [if_pos e0]
          · rw [if_neg e0]
            by_cases e2 : k' % 2 = 0
            · rw [if_pos e2]
            · rw [if_neg e2, if_neg (by omega)]

theorem T.get_put {α : Type} (x : α) (t : T α) : ∀ (k k' : Nat), (t.put x k).get k' = if k' = k then some x else t.get k' := by
  induction t with
  | leaf => intro k k'; exact T.get_one x (k + 1) k k' (by omega)
  | node v l r ihl ihr =>
    intro k k'
    rw [T.put_node, T.get_node v l r]
    by_cases hk : k = 0
    · rw [if_pos hk, T.get_node]; subst hk
      by_cases e : k' = 0
      · rw [if_pos e, if_pos e]
      · rw [if_neg e, if_neg e, if_neg e]
    · rw [if_neg hk]
      by_cases h2 : k % 2 = 0
      · rw [if_pos h2, T.get_node, ihl]
        by_cases e : k' = k
        · subst e; rw [if_neg hk, if_pos h2, if_pos rfl, if_pos rfl]
        · rw [if_neg e]
          by_cases e0 : k' = 0
          · rw [if_pos e0, if_pos e0]
          · rw [if_neg e0, if_neg e0]
            by_cases e2 : k' % 2 = 0
            · rw [if_pos e2, if_pos e2, if_neg (by omega)]
            · rw [if_neg e2, if_neg e2]
      · rw [if_neg h2, T.get_node, ihr]
        by_cases e : k' = k
        · subst e; rw [if_neg hk, if_neg h2, if_pos rfl, if_pos rfl]
        · rw [if_neg e]
          by_cases e0 : k' = 0
          · rw [if_pos e0, if_pos e0]
          · rw [if_neg e0, if_neg e0]
            by_cases e2 : k' % 2 = 0
            · rw [if_pos e2, if_pos e2]
            · rw [if_neg e2, if_neg e2, if_neg (by omega)]

theorem T.get_put_upd {α : Type} (x : α) (t : T α) (k : Nat) : (t.put x k).get = upd t.get k (some x) := funext fun k' => by rw [T.get_put]; rfl

/-! ### What is forced -/
def forceNat {R : Type} (n : Nat) (K : Nat → R) : R := Nat.casesOn n (K 0) (fun m => K (m + 1))
def forceInt {R : Type} (n : Int) (K : Int → R) : R := Int.casesOn n (fun m => forceNat m fun m => K (.ofNat m)) (fun m => forceNat m fun m => K (.negSucc m))
noncomputable def forceList {α R : Type} (l : List α) : (List α → R) → R := List.rec (motive := fun _ => (List α → R) → R) (fun K => K []) (fun x _ ih K => ih fun l' => K (x :: l')) l
def forceBool {R : Type} (b : Bool) (K : Bool → R) : R := Bool.casesOn b (K false) (K true)

theorem forceNat_eq {R : Type} (n : Nat) (K : Nat → R) : forceNat n K = K n := by cases n <;> rfl
theorem forceInt_eq {R : Type} (n : Int) (K : Int → R) : forceInt n K = K n := by
  cases n with
  | ofNat m => exact forceNat_eq m fun m => K (.ofNat m)
  | negSucc m => exact forceNat_eq m fun m => K (.negSucc m)
theorem forceList_eq {α R : Type} (l : List α) : ∀ K : List α → R, forceList l K = K l := by
  induction l with
  | nil => intro K; rfl
  | cons x l ih => intro K; exact ih _
theorem forceBool_eq {R : Type} (b : Bool) (K : Bool → R) : forceBool b K = K b := by cases b <;> rfl

noncomputable def forceV {R : Type} (v : VVal) (K : VVal → R) : R :=
  match v with
  | .int k n => forceInt n fun n => K (.int k n)
  | .bool b => forceBool b fun b => K (.bool b)
  | .agg cs => forceList cs fun cs => K (.agg cs)
  | .tuple cs => forceList cs fun cs => K (.tuple cs)
  | .slice cs len cap => forceList cs fun cs => forceNat len fun len => K (.slice cs len cap)
  | .ptr o off => forceNat off fun off => K (.ptr o off)
  | .lptr s v off => forceNat off fun off => K (.lptr s v off)
  | v => K v

theorem forceV_eq {R : Type} (v : VVal) (K : VVal → R) : forceV v K = K v := by
  cases v <;> simp only [forceV, forceInt_eq, forceBool_eq, forceList_eq, forceNat_eq]

end Go.Pv

/- Lists and light operations, for the kernel's pace. -/
namespace Go.Pv

noncomputable def fdrop {α : Type} (l : List α) : Nat → List α :=
  List.rec (motive := fun _ => Nat → List α) (fun _ => []) (fun x xs ih n => Nat.casesOn (motive := fun _ => List α) n (x :: xs) ih) l
noncomputable def ftake {α : Type} (l : List α) : Nat → List α :=
  List.rec (motive := fun _ => Nat → List α) (fun _ => []) (fun x _ ih n => Nat.casesOn (motive := fun _ => List α) n [] (fun m => x :: ih m)) l
noncomputable def fapp {α : Type} (l m : List α) : List α := List.rec (motive := fun _ => List α) m (fun x _ ih => x :: ih) l
noncomputable def fget {α : Type} (l : List α) : Nat → Option α :=
  List.rec (motive := fun _ => Nat → Option α) (fun _ => none) (fun x _ ih n => Nat.casesOn (motive := fun _ => Option α) n (some x) ih) l
noncomputable def flen {α : Type} (l : List α) : Nat := List.rec (motive := fun _ => Nat) 0 (fun _ _ n => Nat.succ n) l
noncomputable def fsplice {α : Type} (xs : List α) (ys : List α) : Nat → List α :=
  List.rec (motive := fun _ => Nat → List α) (fun _ => ys) (fun x xs ih n => Nat.casesOn (motive := fun _ => List α) n (fapp ys (fdrop (x :: xs) (flen ys))) (fun m => x :: ih m)) xs
noncomputable def fstrEq (a : List UInt8) : List UInt8 → Bool :=
  List.rec (motive := fun _ => List UInt8 → Bool) (fun b => List.casesOn (motive := fun _ => Bool) b true (fun _ _ => false))
    (fun x _ ih b => List.casesOn (motive := fun _ => Bool) b false (fun y ys => bsel (Nat.beq x.toNat y.toNat) (ih ys) false)) a

theorem fdrop_eq {α : Type} (l : List α) : ∀ n, fdrop l n = l.drop n := by
  induction l with
  | nil => intro n; simp [fdrop]
  | cons x xs ih => intro n; cases n with | zero => rfl | succ n => exact ih n
theorem ftake_eq {α : Type} (l : List α) : ∀ n, ftake l n = l.take n := by
  induction l with
  | nil => intro n; simp [ftake]
  | cons x xs ih => intro n; cases n with | zero => rfl | succ n => exact congrArg (x :: ·) (ih n)
theorem fapp_eq {α : Type} (l m : List α) : fapp l m = l ++ m := by
  induction l with
  | nil => rfl
  | cons x xs ih => exact congrArg (x :: ·) ih
theorem fget_eq {α : Type} (l : List α) : ∀ n, fget l n = l[n]? := by
  induction l with
  | nil => intro n; rfl
  | cons x xs ih => intro n; cases n with | zero => rfl | succ n => exact ih n
theorem flen_eq {α : Type} (l : List α) : flen l = l.length := by
  induction l with
  | nil => rfl
  | cons x xs ih => exact congrArg Nat.succ ih
theorem fsplice_eq {α : Type} (xs ys : List α) : ∀ n, n ≤ xs.length → fsplice xs ys n = splice xs n ys := by
  induction xs with
  | nil => intro n h; simp at h; subst h; simp [fsplice, splice]
  | cons x xs ih =>
    intro n h
    cases n with
    | zero =>
      show fapp ys (fdrop (x :: xs) (flen ys)) = _
      simp [fapp_eq, fdrop_eq, flen_eq, splice]
    | succ n =>
      show x :: fsplice xs ys n = _
      rw [ih n (by simpa using h)]
      simp [splice, Nat.add_right_comm]
theorem fstrEq_eq (a : List UInt8) : ∀ b, fstrEq a b = (a == b) := by
  induction a with
  | nil => intro b; cases b <;> rfl
  | cons x xs ih =>
    intro b
    cases b with
    | nil => rfl
    | cons y ys =>
      show bsel (Nat.beq x.toNat y.toNat) (fstrEq xs ys) false = _
      rw [ih ys]
      by_cases h : x = y
      · subst h
        have : Nat.beq x.toNat x.toNat = true := by simp
        rw [this, bsel_true]; simp
      · have : Nat.beq x.toNat y.toNat = false := by
          cases hb : Nat.beq x.toNat y.toNat with
          | false => rfl
          | true => exact absurd (UInt8.toNat_inj.1 (Nat.eq_of_beq_eq_true hb)) h
        rw [this, bsel_false]
        simp [h]

noncomputable def fpart (agg : Bool) (size : Nat) (vs : List VVal) (off : Nat) : Option VVal :=
  bsel agg (bsel (Nat.ble (off + size) (flen vs)) (some (.agg (ftake (fdrop vs off) size))) none) (fget vs off)

theorem bsel_ite {α : Type} (b : Bool) (t f : α) : bsel b t f = if b = true then t else f := by cases b <;> rfl
theorem bsel_ble {α : Type} (m n : Nat) (t f : α) : bsel (Nat.ble m n) t f = if m ≤ n then t else f := by rw [bsel_ite]; simp

theorem fpart_eq (agg : Bool) (size : Nat) (vs : List VVal) (off : Nat) : fpart agg size vs off = vpart agg size vs off := by
  unfold fpart vpart
  rw [bsel_ite, bsel_ble, flen_eq, ftake_eq, fdrop_eq, fget_eq]

noncomputable def fshift (x : VVal) (n : Nat) : Option VVal :=
  match x with
  | .iptr cs => bsel (Nat.ble n (flen cs)) (some (.iptr (fdrop cs n))) none
  | x => vshift x n

theorem fshift_eq (x : VVal) (n : Nat) : fshift x n = vshift x n := by
  cases x <;> simp only [fshift]
  rw [bsel_ble, flen_eq, fdrop_eq]; rfl

noncomputable def VSt.flight (st : VSt) (L : TypeId → Option TInfo) (o : Op) : Option VVal :=
  match o with
  | .load t a => match L t, st.cellsAt (st.ev a) with | some i, some (vs, off) => fpart i.agg i.size vs off | _, _ => none
  | .indexAddr t x ix => match L t, st.ev ix with
    | some i, .int k n => match i.shape, st.ev x with
      | .slice e, .slice cells len _ => match L e with
        | some ei => if 0 ≤ n ∧ n < (len : Int) ∧ cells.isEmpty = false then fshift (.iptr cells) (n.toNat * ei.size) else none
        | none => none
      | _, x => vindexAddr L t x (.int k n)
    | _, _ => none
  | .field t x f => match L t, st.ev x with
    | some i, .agg cs => match i.shape with
      | .struct fs => match fs[f]? with
        | some fi => fpart fi.agg fi.size cs fi.off
        | none => none
      | _ => none
    | _, _ => none
  | .index t x ix => match L t, st.ev x, st.ev ix with
    | some i, .str s, .int _ n => if i.shape = .str ∧ 0 ≤ n then (fget s n.toNat).map fun b => .int .u8 (b.toNat : Int) else none
    | _, x, ix => vindex L t x ix
  | .binOp op t x y _ => match op, st.ev x, st.ev y with
    | .eql, .str a, .str b => some (.bool (fstrEq a b))
    | .neq, .str a, .str b => some (.bool (!(fstrEq a b)))
    | op, a, b => vbin L op t (isConstNil x || isConstNil y) a b
  | .extract x i => match st.ev x with
    | .tuple vs => fget vs i
    | _ => none
  | .slice t x lo hi mx => match st.bound? lo, st.bound? hi, st.bound? mx with
    | some l, some h, some none => match L t, st.ev x with
      | some i, .str s =>
        let lo := l.getD 0
        let hi := match h with | some h => h | none => (flen s : Int)
        if i.shape = .str ∧ 0 ≤ lo ∧ lo ≤ hi ∧ hi ≤ (flen s : Int) then some (.str (ftake (fdrop s lo.toNat) (hi.toNat - lo.toNat))) else none
      | _, x => vsliceOp L t x l h none
    | some l, some h, some (some m) => vsliceOp L t (st.ev x) l h (some m)
    | _, _, _ => none
  | o => st.light L o

theorem flight_eq (st : VSt) (L : TypeId → Option TInfo) (o : Op) : st.flight L o = st.light L o := by
  unfold VSt.flight
  split
  · simp only [VSt.light, fpart_eq]; rfl
  · next t x ix =>
    simp only [VSt.light, vindexAddr]
    split
    · next i k n h1 h2 =>
      simp only [h1, h2]
      split
      · next e cells len cap h3 h4 =>
        simp only [h3, h4, fshift_eq]; rfl
      · next h3 => rfl
    · next h1 =>
      split
      · next i k n h2 h3 => exact absurd h3 (h1 _ _ _ h2)
      · rfl
  · simp only [VSt.light, vfield, fpart_eq]; rfl
  · next t x ix =>
    simp only [VSt.light]
    split
    · next i s k n h1 h2 h3 => simp only [h2, h3, vindex, h1, fget_eq]
    · rfl
  · next op t x y _ =>
    simp only [VSt.light]
    split
    · next h1 h2 => simp only [h1, h2, vbin, vbinStr, fstrEq_eq]
    · next h1 h2 => simp only [h1, h2, vbin, vbinStr, fstrEq_eq]
    · rfl
  · simp only [VSt.light, vextract, fget_eq]; rfl
  · next t x lo hi mx =>
    simp only [VSt.light]
    split
    · next l h h1 h2 h3 =>
      simp only [h1, h2, h3]
      split
      · next i s h4 h5 =>
        simp only [vsliceOp, h4, h5, flen_eq, ftake_eq, fdrop_eq]
        cases h <;> simp
      · rfl
    · next l h m h1 h2 h3 => simp only [h1, h2, h3]
    · next h1 h2 => 
      split
      · next l h m q1 q2 q3 =>
        cases m with
        | none => exact absurd q3 (h1 _ _ q1 q2)
        | some m => exact absurd q3 (h2 _ _ _ q1 q2)
      · rfl
  · rfl

end Go.Pv

/- One operation, weakened. -/
namespace Go.Pv
variable {P : Program}

theorem VPut.mono {st : VSt} {dst : Option Nat} {v : VVal} {next next' : VSt → Prop} (h : VPut st dst v next) (hn : ∀ s, next s → next' s) : VPut st dst v next' := by
  cases dst with
  | none => exact hn _ h
  | some d => exact ⟨h.1, hn _ h.2⟩

theorem VNew.mono {esc : Nat → Bool} {st : VSt} {dst : Option Nat} {E : TypeId} {cs : List VVal} {next next' : VSt → Prop} (h : VNew esc st dst E cs next) (hn : ∀ s, next s → next' s) : VNew esc st dst E cs next' := by
  cases dst with
  | none => exact h
  | some d =>
    unfold VNew at h ⊢
    refine ⟨h.1, ?_⟩
    obtain ⟨_, h⟩ := h
    by_cases q : esc d = true
    · rw [if_pos q] at h ⊢
      exact fun o ho hf => hn _ (h o ho hf)
    · rw [if_neg q] at h ⊢
      exact fun v hf => hn _ (h v hf)

theorem VMapPut.mono {st : VSt} {t : TypeId} {m k v : VVal} {next next' : VSt → Prop} (h : VMapPut P st t m k v next) (hn : ∀ s, next s → next' s) : VMapPut P st t m k v next' := by
  unfold VMapPut at h ⊢
  split at h
  · split at h
    · split at h
      · refine ⟨h.1, ?_⟩
        obtain ⟨_, h⟩ := h
        split at h
        · exact hn _ h
        · exact hn _ h
        · exact h.elim
      · exact h.elim
    · exact h.elim
  · exact h.elim

theorem VStore.mono {st : VSt} {t : TypeId} {p x : VVal} {next next' : VSt → Prop} (h : VStore P st t p x next) (hn : ∀ s, next s → next' s) : VStore P st t p x next' := by
  unfold VStore at h ⊢
  split at h
  · obtain ⟨hc, h⟩ := h
    refine ⟨hc, ?_⟩
    split at h
    · split at h
      · exact ⟨h.1, hn _ h.2⟩
      · exact h.elim
    · split at h
      · exact ⟨h.1, h.2.1, hn _ h.2.2⟩
      · exact h.elim
    · split at h
      · exact ⟨h.1, h.2.1, hn _ h.2.2⟩
      · exact h.elim
    · exact h.elim
  · exact h.elim

theorem VStep.mono {esc : Nat → Bool} {st : VSt} {o : Oper} {next next' : VSt → Prop} {Qp Qp' : VVal → VSt → Prop} (h : VStep P esc st o next Qp) (hn : ∀ s, next s → next' s) (hq : ∀ v s, Qp v s → Qp' v s) :
    VStep P esc st o next' Qp' := by
  obtain ⟨dst, op, type, pos, after, guard⟩ := o
  unfold VStep at h ⊢
  simp only at h ⊢
  split at h
  case h_1 t p x =>
    unfold VStore at h ⊢
    split at h
    · simp only
      obtain ⟨hc, h⟩ := h
      refine ⟨hc, ?_⟩
      split at h
      · split at h
        · exact ⟨h.1, h.2.mono hn⟩
        · exact h.elim
      · split at h
        · exact ⟨h.1, h.2.1, h.2.2.mono hn⟩
        · exact h.elim
      · split at h
        · exact ⟨h.1, h.2.1, h.2.2.mono hn⟩
        · exact h.elim
      · exact h.elim
    · exact h.elim
  case h_2 t =>
    split at h
    · split at h
      · exact h.mono hn
      · exact h.elim
    · exact h.elim
  case h_3 t x =>
    split at h
    · exact h.mono hn
    · exact h.elim
  case h_4 t => exact fun q h1 h2 => (h q h1 h2).mono hn
  case h_5 t m k v => exact h.mono fun s q => q.mono hn
  case h_6 t m k v => exact h.mono fun s q => q.mono hn
  case h_7 t l c =>
    unfold VMakeSlice at h ⊢
    split at h
    · split at h
      · split at h
        · refine ⟨h.1, h.2.1, h.2.2.1, h.2.2.2.1, ?_⟩
          obtain ⟨_, _, _, _, h⟩ := h
          split at h
          · exact ⟨h.1, fun q h1 h2 => (h.2 q h1 h2).mono hn⟩
          · exact h.elim
        · exact h.elim
      · exact h.elim
    · exact h.elim
  case h_8 t x =>
    unfold VRange at h ⊢
    split at h
    · split at h
      · exact fun q h1 h2 => (h q h1 h2).mono hn
      · split at h
        · exact fun q h1 h2 => (h q h1 h2).mono hn
        · exact h.elim
      · exact h.elim
    · exact h.elim
  case h_9 x =>
    split at h
    · exact hq _ _ h
    · exact h.elim
  case h_10 args argTypes =>
    split at h
    · refine h.imp (fun h => ?_) (fun h => ?_)
      · unfold VAppend at h ⊢
        split at h
        · split at h
          · split at h
            · refine ⟨h.1, ?_⟩
              obtain ⟨_, h⟩ := h
              split at h
              · refine ⟨h.1, h.2.1, h.2.2.1, h.2.2.2.1, ?_⟩
                obtain ⟨_, _, _, _, h⟩ := h
                split at h
                · next q => rw [if_pos q]; exact h.mono hn
                · next q =>
                  rw [if_neg q]
                  refine ⟨h.1, h.2.1, ?_⟩
                  obtain ⟨_, _, h⟩ := h
                  split at h
                  · exact ⟨h.1, fun q h1 h2 => (h.2 q h1 h2).mono hn⟩
                  · exact ⟨h.1, h.2.1, h.2.2.1, h.2.2.2.mono hn⟩
                  · exact fun q h1 h2 => (h q h1 h2).mono hn
                  · exact h.elim
              · exact h.elim
            · exact h.elim
          · exact h.elim
        · exact h.elim
      · unfold VGrow at h ⊢
        split at h
        · split at h
          · split at h
            · refine ⟨h.1, ?_⟩
              obtain ⟨_, h⟩ := h
              split at h
              · refine ⟨h.1, h.2.1, h.2.2.1, h.2.2.2.1, ?_⟩
                obtain ⟨_, _, _, _, h⟩ := h
                split at h
                · exact ⟨h.1, h.2.1, fun q h1 h2 h3 => (h.2.2 q h1 h2 h3).mono hn⟩
                · refine ⟨h.1, h.2.1, h.2.2.1, ?_⟩
                  obtain ⟨_, _, _, h⟩ := h
                  split at h
                  · exact ⟨h.1, h.2.1, h.2.2.mono hn⟩
                  · exact h.elim
                · exact h.elim
              · exact h.elim
            · exact h.elim
          · exact h.elim
        · exact h.elim
    · exact h.elim
  case h_11 f args argTypes =>
    unfold VCallOp at h ⊢
    split at h
    · refine VCalls.mono h fun out h' q => ?_
      cases out with
      | ret v => exact q.mono hn
      | panic v => exact hq _ _ q
    · exact h.elim
  case h_12 =>
    split at h
    · exact h.mono hn
    · exact h.elim

theorem VOps.mono {esc : Nat → Bool} {ops : Array Oper} {Q Q' : VExit → VSt → Prop} (hq : ∀ e s, Q e s → Q' e s) : ∀ {l : List Oper} {st : VSt}, VOps P esc ops Q l st → VOps P esc ops Q' l st
  | [], _, h => hq _ _ h
  | o :: rest, st, h => by
    simp only [VOps] at h ⊢
    split at h
    · exact h.mono (fun s q => VOps.mono hq q) (fun v s q => hq _ _ q)
    · split at h
      · split at h
        · split at h
          · next q => rw [if_pos q]; exact h.mono (fun s q => VOps.mono hq q) (fun v s q => hq _ _ q)
          · next q => rw [if_neg q]; exact h.mono (fun s q => VOps.mono hq q)
        · exact h.mono (fun s q => VOps.mono hq q)
        · exact h.elim
      · exact h.elim

end Go.Pv

/- The evaluator: one operation. -/
namespace Go.Pv
variable {P : Program}

inductive EObj where
  | v (x : VObj)
  | loop (n : Nat) (t : T VVal) (params : Array Tmp) (assign body : Code) (state : LoopState) (pending : Option Code)

noncomputable def EObj.to : EObj → VObj
  | .v x => x
  | .loop n t params assign body state pending => .loop { n := n, tm := fun k => (t.get k).getD .undef, params := params, assign := assign, body := body, state := state, pending := pending }

structure EH where
  ob : T EObj
  fm : T Nat
  gr : T (List VVal)
  ty : T TypeId
  nx : Nat

structure ESt where
  n : Nat
  tm : T VVal
  bx : T (Nat × List VVal)
  h : EH

noncomputable def EH.to (h : EH) : VHeap := { ob := fun k => (h.ob.get k).map EObj.to, fm := h.fm.get, gr := h.gr.get, bd := some h.nx, ty := h.ty.get }
noncomputable def ESt.to (E : ESt) : VSt := { n := E.n, tm := fun k => (E.tm.get k).getD .undef, bx := E.bx.get, h := E.h.to }

abbrev CallF := FuncId → List VVal → EH → Option (VOut × EH)

section
variable {ρ : Type}

theorem ob_put (t : T EObj) (o : Nat) (x : EObj) : (fun k => ((t.put x o).get k).map EObj.to) = upd (fun k => (t.get k).map EObj.to) o (some x.to) := by
  funext k
  rw [T.get_put]
  unfold upd
  split <;> rfl

noncomputable def evPut (E : ESt) (dst : Option Nat) (v : VVal) (K : ESt → Option ρ) : Option ρ :=
  match dst with
  | none => K E
  | some d => match E with
    | ⟨n, tm, bx, h⟩ => bsel (Nat.ble (Nat.succ d) n) (forceV v fun v => tm.putK v d fun tm => K ⟨n, tm, bx, h⟩) none

theorem to_put (n : Nat) (tm : T VVal) (bx : T (Nat × List VVal)) (h : EH) (d : Nat) (v : VVal) : (⟨n, tm, bx, h⟩ : ESt).to.put d v = (⟨n, tm.put v d, bx, h⟩ : ESt).to := by
  unfold ESt.to VSt.put
  simp only [T.get_put_upd]
  congr 1
  funext k
  unfold upd
  split <;> rfl

theorem evPut_sound {E : ESt} {dst : Option Nat} {v : VVal} {K : ESt → Option ρ} {res : ρ} (h : evPut E dst v K = some res) : VPut E.to dst v (fun st' => ∃ E', st' = E'.to ∧ K E' = some res) := by
  cases dst with
  | none => exact ⟨E, rfl, h⟩
  | some d =>
    obtain ⟨n, tm, bx, hh⟩ := E
    simp only [evPut, forceV_eq, T.putK_eq, bsel_ble] at h
    split at h
    · next hlt => exact ⟨hlt, _, to_put n tm bx hh d v, h⟩
    · cases h

/-- A new heap object. -/
noncomputable def evNewOb (E : ESt) (x : EObj) (K : Nat → ESt → Option ρ) : Option ρ :=
  match E with
  | ⟨n, tm, bx, ⟨ob, fm, gr, ty, nx⟩⟩ => ob.putK x nx fun ob => forceNat (Nat.succ nx) fun nx' => K nx ⟨n, tm, bx, ⟨ob, fm, gr, ty, nx'⟩⟩

theorem evNewOb_sound {E : ESt} {x : EObj} {K : Nat → ESt → Option ρ} {res : ρ} (h : evNewOb E x K = some res) : ∀ o, E.to.Free o → ∃ E', ((E.to.setOb o x.to).bump) = E'.to ∧ K o E' = some res := by
  intro o ho
  obtain ⟨n, tm, bx, ⟨ob, fm, gr, ty, nx⟩⟩ := E
  have : o = nx := ho nx rfl
  subst this
  simp only [evNewOb, forceNat_eq, T.putK_eq] at h
  refine ⟨_, ?_, h⟩
  unfold ESt.to EH.to VSt.setOb VSt.bump
  simp only [ob_put, Option.map_some]

/-- A new heap object of cells of a type. -/
noncomputable def evNewTy (E : ESt) (e : TypeId) (x : EObj) (K : Nat → ESt → Option ρ) : Option ρ :=
  match E with
  | ⟨n, tm, bx, ⟨ob, fm, gr, ty, nx⟩⟩ => ob.putK x nx fun ob => ty.putK e nx fun ty => forceNat (Nat.succ nx) fun nx' => K nx ⟨n, tm, bx, ⟨ob, fm, gr, ty, nx'⟩⟩

theorem evNewTy_sound {E : ESt} {e : TypeId} {x : EObj} {K : Nat → ESt → Option ρ} {res : ρ} (h : evNewTy E e x K = some res) : ∀ o, E.to.Free o → ∃ E', (((E.to.setOb o x.to).setTy o e).bump) = E'.to ∧ K o E' = some res := by
  intro o ho
  obtain ⟨n, tm, bx, ⟨ob, fm, gr, ty, nx⟩⟩ := E
  have : o = nx := ho nx rfl
  subst this
  simp only [evNewTy, forceNat_eq, T.putK_eq] at h
  refine ⟨_, ?_, h⟩
  unfold ESt.to EH.to VSt.setOb VSt.setTy VSt.bump
  simp only [ob_put]
  simp only [T.get_put_upd, Option.map_some]

noncomputable def evNew (esc : Nat → Bool) (E : ESt) (dst : Option Nat) (e : TypeId) (cs : List VVal) (K : ESt → Option ρ) : Option ρ :=
  match dst with
  | none => none
  | some d => bsel (esc d) (forceList cs fun cs => evNewTy E e (.v (.cells cs)) fun o E => evPut E (some d) (.ptr o 0) K)
    (match E with
      | ⟨n, tm, bx, ⟨ob, fm, gr, ty, nx⟩⟩ => forceList cs fun cs => bx.putK (nx, cs) d fun bx => forceNat (Nat.succ nx) fun nx' => evPut ⟨n, tm, bx, ⟨ob, fm, gr, ty, nx'⟩⟩ (some d) (.lptr d nx 0) K)

theorem vput_lt {E : ESt} {d : Nat} {v : VVal} {K : ESt → Option ρ} {res : ρ} (h : evPut E (some d) v K = some res) : d < E.n := (evPut_sound h).1

theorem evNew_sound {esc : Nat → Bool} {E : ESt} {dst : Option Nat} {e : TypeId} {cs : List VVal} {K : ESt → Option ρ} {res : ρ} (h : evNew esc E dst e cs K = some res) : VNew esc E.to dst e cs (fun st' => ∃ E', st' = E'.to ∧ K E' = some res) := by
  cases dst with
  | none => simp [evNew] at h
  | some d =>
    simp only [evNew, bsel_ite, forceList_eq] at h
    unfold VNew
    by_cases he : esc d = true
    · rw [if_pos he] at h
      have h1 := evNewTy_sound h
      obtain ⟨E1, e1, h2⟩ := h1 E.h.nx (fun n e => by simp [ESt.to, EH.to] at e; exact e)
      have hlt := vput_lt h2
      have hn : E1.n = E.n := congrArg VSt.n e1.symm
      refine ⟨by rw [hn] at hlt; exact hlt, ?_⟩
      rw [if_pos he]
      intro o _ ho
      obtain ⟨E', e', h3⟩ := h1 o ho
      simp only [EObj.to] at e'
      rw [e']
      exact (evPut_sound h3).2
    · rw [if_neg he] at h
      obtain ⟨n, tm, bx, ⟨ob, fm, gr, ty, nx⟩⟩ := E
      simp only [forceNat_eq, T.putK_eq] at h
      refine ⟨vput_lt h, ?_⟩
      rw [if_neg he]
      intro ver hv
      have : ver = nx := hv nx rfl
      subst this
      have e' : ((ESt.to ⟨n, tm, bx, ⟨ob, fm, gr, ty, ver⟩⟩).setBx d ver cs).bump = (⟨n, tm, bx.put (ver, cs) d, ⟨ob, fm, gr, ty, Nat.succ ver⟩⟩ : ESt).to := by
        unfold ESt.to EH.to VSt.setBx VSt.bump
        simp only [T.get_put_upd, Option.map_some]
      rw [e']
      exact (evPut_sound h).2

noncomputable def evSetOb (E : ESt) (o : Nat) (x : EObj) (K : ESt → Option ρ) : Option ρ :=
  match E with
  | ⟨n, tm, bx, ⟨ob, fm, gr, ty, nx⟩⟩ => ob.putK x o fun ob => K ⟨n, tm, bx, ⟨ob, fm, gr, ty, nx⟩⟩

theorem evSetOb_sound {E : ESt} {o : Nat} {x : EObj} {K : ESt → Option ρ} {res : ρ} (h : evSetOb E o x K = some res) : ∃ E', E.to.setOb o x.to = E'.to ∧ K E' = some res := by
  obtain ⟨n, tm, bx, ⟨ob, fm, gr, ty, nx⟩⟩ := E
  simp only [evSetOb, T.putK_eq] at h
  refine ⟨_, ?_, h⟩
  unfold ESt.to EH.to VSt.setOb
  simp only [ob_put]

noncomputable def evStore (L : TypeId → Option TInfo) (E : ESt) (t : TypeId) (p x : VVal) (K : ESt → Option ρ) : Option ρ :=
  match L t, vcells x with
  | some i, some cs => bsel (Nat.beq (flen cs) i.size) (match p with
    | .ptr o off => match E.to.h.ob o with
      | some (.cells vs) => bsel (Nat.ble (off + flen cs) (flen vs)) (forceList (fsplice vs cs off) fun ws => evSetOb E o (.v (.cells ws)) K) none
      | _ => none
    | .lptr s v off => match E.to.bx s with
      | some (v', vs) => bsel (Nat.beq v' v) (bsel (Nat.ble (off + flen cs) (flen vs)) (forceList (fsplice vs cs off) fun ws => match E with
        | ⟨n, tm, bx, h⟩ => bx.putK (v', ws) s fun bx => K ⟨n, tm, bx, h⟩) none) none
      | none => none
    | .gptr t sz len off => match E.h.gr.get t with
      | some vs => bsel (Nat.beq (flen vs) (len * sz)) (bsel (Nat.ble (off + flen cs) (flen vs)) (forceList (fsplice vs cs off) fun ws => match E with
        | ⟨n, tm, bx, ⟨ob, fm, gr, ty, nx⟩⟩ => gr.putK ws t fun gr => K ⟨n, tm, bx, ⟨ob, fm, gr, ty, nx⟩⟩) none) none
      | none => none
    | _ => none) none
  | _, _ => none

theorem bsel_some {α : Type} {b : Bool} {t : Option α} {r : α} (h : bsel b t none = some r) : b = true ∧ t = some r := by
  cases b with
  | true => exact ⟨rfl, h⟩
  | false => cases h

theorem bsel_beq {α : Type} (m n : Nat) (t f : α) : bsel (Nat.beq m n) t f = if m = n then t else f := by
  rw [bsel_ite]
  by_cases h : m = n
  · subst h; simp
  · rw [if_neg h, if_neg]; intro e; exact h (Nat.eq_of_beq_eq_true e)

theorem evStore_sound {E : ESt} {t : TypeId} {p x : VVal} {K : ESt → Option ρ} {res : ρ} (h : evStore (layoutOf P) E t p x K = some res) : VStore P E.to t p x (fun st' => ∃ E', st' = E'.to ∧ K E' = some res) := by
  unfold evStore at h
  unfold VStore
  split at h
  case h_2 => cases h
  rename_i i cs h1 h2
  simp only [bsel_beq, bsel_ble, flen_eq, forceList_eq] at h
  split at h
  case isFalse => cases h
  rename_i hsz
  simp only [h1, h2]
  refine ⟨hsz, ?_⟩
  split at h
  · next o off =>
    split at h
    · next vs hob =>
      simp only [hob]
      split at h
      · next hle =>
        rw [fsplice_eq _ _ _ (by omega)] at h
        obtain ⟨E', e', h'⟩ := evSetOb_sound h
        exact ⟨hle, E', e', h'⟩
      · cases h
    · cases h
  · next s v off =>
    split at h
    · next v' vs hbx =>
      simp only [hbx]
      split at h
      · next hv =>
        split at h
        · next hle =>
          rw [fsplice_eq _ _ _ (by omega)] at h
          obtain ⟨n, tm, bx, hh⟩ := E
          simp only [T.putK_eq] at h
          refine ⟨hv, hle, _, ?_, h⟩
          unfold ESt.to VSt.setBx
          simp only [T.get_put_upd]
        · cases h
      · cases h
    · cases h
  · next gt sz len off =>
    split at h
    · next vs hgr =>
      have hgr' : E.to.h.gr gt = some vs := hgr
      simp only [hgr']
      split at h
      · next hv =>
        split at h
        · next hle =>
          rw [fsplice_eq _ _ _ (by omega)] at h
          obtain ⟨n, tm, bx, ⟨ob, fm, gr, ty, nx⟩⟩ := E
          simp only [T.putK_eq] at h
          refine ⟨hv, hle, _, ?_, h⟩
          unfold ESt.to EH.to VSt.setGr
          simp only [T.get_put_upd]
        · cases h
      · cases h
    · cases h
  · cases h

noncomputable def evAppend (L : TypeId → Option TInfo) (ps : Bool) (E : ESt) (dst : Option Nat) (t : TypeId) (s x : VVal) (K : ESt → Option ρ) : Option ρ :=
  match L t with
  | some i => match i.shape with
    | .slice e => match L e, s with
      | some ei, .slice cells len cap => bsel ps (match vsource (ei.shape == .int .u8) x with
        | some (xs, n) =>
          bsel (Nat.beq (flen cells) (len * ei.size)) (bsel (Nat.beq (flen xs) (n * ei.size)) (bsel (Nat.ble ((len + n) * ei.bytes) 140737488355328) (bsel (Nat.ble (len + n) 140737488355328)
          (bsel (Nat.beq n 0) (evPut E dst (.slice cells len cap) K)
            (bsel (Nat.ble 1 ei.size) (match ei.zero.bind vcells with
              | some zs => bsel (Nat.beq (flen zs) ei.size) (forceList (fapp cells xs) fun ws => forceNat (flen ws) fun m => forceNat (len + n) fun len' => match E with
                | ⟨en, tm, bx, ⟨ob, fm, gr, ty, nx⟩⟩ => match cap with
                  | .exact c => bsel (Nat.ble (Nat.succ c) (len + n)) (fm.putK m nx fun fm => ty.putK e nx fun ty => forceNat (Nat.succ nx) fun nx' => evPut ⟨en, tm, bx, ⟨ob, fm, gr, ty, nx'⟩⟩ dst (.slice ws len' (.tok nx ei.size)) K) none
                  | .tok τ sz => bsel (Nat.beq sz ei.size) (match fm.get τ with
                    | some m0 => bsel (Nat.beq m0 (flen cells)) (match ty.get τ with
                      | some e' => bsel (Nat.beq e' e) (fm.putK m τ fun fm => evPut ⟨en, tm, bx, ⟨ob, fm, gr, ty, nx⟩⟩ dst (.slice ws len' (.tok τ ei.size)) K) none
                      | none => none) none
                    | none => none) none
                  | .nil => fm.putK m nx fun fm => ty.putK e nx fun ty => forceNat (Nat.succ nx) fun nx' => evPut ⟨en, tm, bx, ⟨ob, fm, gr, ty, nx'⟩⟩ dst (.slice ws len' (.tok nx ei.size)) K
                  | .any => none) none
              | none => none) none)) none) none) none) none
        | none => none) none
      | _, _ => none
    | _ => none
  | none => none

theorem evAppend_sound {E : ESt} {dst : Option Nat} {t xt : TypeId} {s x : VVal} {K : ESt → Option ρ} {res : ρ} (h : evAppend (layoutOf P) (plainSource P xt) E dst t s x K = some res) : VAppend P E.to dst t xt s x (fun st' => ∃ E', st' = E'.to ∧ K E' = some res) := by
  unfold evAppend at h
  unfold VAppend
  split at h
  case h_2 => cases h
  rename_i i hi
  simp only [hi]
  split at h
  case h_2 => cases h
  rename_i e hsh
  split at h
  case h_2 => cases h
  rename_i ei cells len cap he
  simp only [hsh, he]
  have hps := (bsel_some h).1
  replace h := (bsel_some h).2
  refine ⟨hps, ?_⟩
  split at h
  case h_2 => cases h
  rename_i xs n hxs
  have c1 := (bsel_some h).1
  replace h := (bsel_some h).2
  have c2 := (bsel_some h).1
  replace h := (bsel_some h).2
  have c3 := (bsel_some h).1
  replace h := (bsel_some h).2
  have c4 := (bsel_some h).1
  replace h := (bsel_some h).2
  have c1 := Nat.eq_of_beq_eq_true c1
  have c2 := Nat.eq_of_beq_eq_true c2
  have c3 := Nat.le_of_ble_eq_true c3
  have c4 := Nat.le_of_ble_eq_true c4
  rw [flen_eq] at c1 c2
  rw [hxs]
  refine ⟨c1, c2, c3, c4, ?_⟩
  rw [bsel_beq] at h
  split at h
  · next hn => rw [if_pos hn]; exact evPut_sound h
  · next hn =>
    rw [if_neg hn]
    have c5 := (bsel_some h).1
    replace h := (bsel_some h).2
    have c5 := Nat.le_of_ble_eq_true c5
    split at h
    case h_2 => cases h
    rename_i zs hzs
    have c6 := (bsel_some h).1
    replace h := (bsel_some h).2
    have c6 := Nat.eq_of_beq_eq_true c6
    rw [flen_eq] at c6
    rw [hzs]
    refine ⟨by omega, c6, ?_⟩
    simp only [forceList_eq, forceNat_eq, T.putK_eq, flen_eq, fapp_eq] at h
    obtain ⟨en, tm, bx, ⟨ob, fm, gr, ty, nx⟩⟩ := E
    simp only at h
    cases cap with
    | any => cases h
    | nil =>
      simp only at h
      intro τ _ hτ
      have : τ = nx := hτ nx rfl
      subst this
      have e' : (((ESt.to ⟨en, tm, bx, ⟨ob, fm, gr, ty, τ⟩⟩).setFm τ (cells ++ xs).length).setTy τ e).bump = (⟨en, tm, bx, ⟨ob, fm.put (cells ++ xs).length τ, gr, ty.put e τ, Nat.succ τ⟩⟩ : ESt).to := by
        unfold ESt.to EH.to VSt.setFm VSt.setTy VSt.bump
        simp only [T.get_put_upd, Option.map_some]
      rw [e']
      exact evPut_sound h
    | exact c =>
      simp only at h
      have c7 := (bsel_some h).1
      replace h := (bsel_some h).2
      have c7 := Nat.le_of_ble_eq_true c7
      refine ⟨by omega, fun τ _ hτ => ?_⟩
      have : τ = nx := hτ nx rfl
      subst this
      have e' : (((ESt.to ⟨en, tm, bx, ⟨ob, fm, gr, ty, τ⟩⟩).setFm τ (cells ++ xs).length).setTy τ e).bump = (⟨en, tm, bx, ⟨ob, fm.put (cells ++ xs).length τ, gr, ty.put e τ, Nat.succ τ⟩⟩ : ESt).to := by
        unfold ESt.to EH.to VSt.setFm VSt.setTy VSt.bump
        simp only [T.get_put_upd, Option.map_some]
      rw [e']
      exact evPut_sound h
    | tok τ sz =>
      simp only at h
      have c7 := Nat.eq_of_beq_eq_true (bsel_some h).1
      replace h := (bsel_some h).2
      split at h
      case h_2 => cases h
      rename_i m0 hm0
      have c8 := Nat.eq_of_beq_eq_true (bsel_some h).1
      replace h := (bsel_some h).2
      split at h
      case h_2 => cases h
      rename_i e' hty
      have c9 := Nat.eq_of_beq_eq_true (bsel_some h).1
      replace h := (bsel_some h).2
      subst c7 c8 c9
      refine ⟨rfl, hm0, hty, ?_⟩
      have e' : (ESt.to ⟨en, tm, bx, ⟨ob, fm, gr, ty, nx⟩⟩).setFm τ (cells ++ xs).length = (⟨en, tm, bx, ⟨ob, fm.put (cells ++ xs).length τ, gr, ty, nx⟩⟩ : ESt).to := by
        unfold ESt.to EH.to VSt.setFm
        simp only [T.get_put_upd]
      rw [e']
      exact evPut_sound h

noncomputable def evGrow (L : TypeId → Option TInfo) (ps : Bool) (E : ESt) (dst : Option Nat) (t : TypeId) (s x : VVal) (K : ESt → Option ρ) : Option ρ :=
  match L t with
  | some i => match i.shape with
    | .slice e => match L e with
      | some ei => bsel ps (match vsource (ei.shape == .int .u8) x with
        | some (xs, n) => bsel (Nat.beq (flen xs) (n * ei.size)) (bsel (Nat.ble 1 n) (bsel (Nat.ble 1 ei.size) (match ei.zero.bind vcells with
          | some zs => bsel (Nat.beq (flen zs) ei.size) (match s with
            | .slice [] 0 .nil => bsel (Nat.ble (n * ei.bytes) 140737488355328) (bsel (Nat.ble n 140737488355328) (match E with
              | ⟨en, tm, bx, ⟨ob, fm, gr, ty, nx⟩⟩ => forceList xs fun xs => gr.putK xs nx fun gr => ty.putK e nx fun ty => forceNat (Nat.succ nx) fun nx' => evPut ⟨en, tm, bx, ⟨ob, fm, gr, ty, nx'⟩⟩ dst (.rslice nx ei.size n) K) none) none
            | .rslice τ sz len => bsel (Nat.beq sz ei.size) (bsel (Nat.ble ((len + n) * ei.bytes) 140737488355328) (bsel (Nat.ble (len + n) 140737488355328) (match E with
              | ⟨en, tm, bx, ⟨ob, fm, gr, ty, nx⟩⟩ => match gr.get τ, ty.get τ with
                | some vs, some e' => bsel (Nat.beq (flen vs) (len * sz)) (bsel (Nat.beq e' e) (forceList (fapp vs xs) fun ws => forceNat (len + n) fun len' => gr.putK ws τ fun gr => evPut ⟨en, tm, bx, ⟨ob, fm, gr, ty, nx⟩⟩ dst (.rslice τ sz len') K) none) none
                | _, _ => none) none) none) none
            | _ => none) none
          | none => none) none) none) none
        | none => none) none
      | none => none
    | _ => none
  | none => none

theorem evGrow_sound {E : ESt} {dst : Option Nat} {t xt : TypeId} {s x : VVal} {K : ESt → Option ρ} {res : ρ} (h : evGrow (layoutOf P) (plainSource P xt) E dst t s x K = some res) : VGrow P E.to dst t xt s x (fun st' => ∃ E', st' = E'.to ∧ K E' = some res) := by
  unfold evGrow at h
  unfold VGrow
  split at h
  case h_2 => cases h
  rename_i i hi
  simp only [hi]
  split at h
  case h_2 => cases h
  rename_i e hsh
  split at h
  case h_2 => cases h
  rename_i ei he
  simp only [hsh, he]
  have hps := (bsel_some h).1
  replace h := (bsel_some h).2
  refine ⟨hps, ?_⟩
  split at h
  case h_2 => cases h
  rename_i xs n hxs
  have c1 := Nat.eq_of_beq_eq_true (bsel_some h).1
  replace h := (bsel_some h).2
  have c2 := Nat.le_of_ble_eq_true (bsel_some h).1
  replace h := (bsel_some h).2
  have c3 := Nat.le_of_ble_eq_true (bsel_some h).1
  replace h := (bsel_some h).2
  rw [flen_eq] at c1
  rw [hxs]
  refine ⟨c1, by omega, by omega, ?_⟩
  split at h
  case h_2 => cases h
  rename_i zs hzs
  have c4 := Nat.eq_of_beq_eq_true (bsel_some h).1
  replace h := (bsel_some h).2
  rw [flen_eq] at c4
  rw [hzs]
  refine ⟨c4, ?_⟩
  split at h
  · have c5 := Nat.le_of_ble_eq_true (bsel_some h).1
    replace h := (bsel_some h).2
    have c6 := Nat.le_of_ble_eq_true (bsel_some h).1
    replace h := (bsel_some h).2
    refine ⟨c5, c6, fun τ _ _ hτ => ?_⟩
    obtain ⟨en, tm, bx, ⟨ob, fm, gr, ty, nx⟩⟩ := E
    simp only [forceList_eq, forceNat_eq, T.putK_eq] at h
    have : τ = nx := hτ nx rfl
    subst this
    have e' : (((ESt.to ⟨en, tm, bx, ⟨ob, fm, gr, ty, τ⟩⟩).setGr τ xs).setTy τ e).bump = (⟨en, tm, bx, ⟨ob, fm, gr.put xs τ, ty.put e τ, Nat.succ τ⟩⟩ : ESt).to := by
      unfold ESt.to EH.to VSt.setGr VSt.setTy VSt.bump
      simp only [T.get_put_upd, Option.map_some]
    rw [e']
    exact evPut_sound h
  · next τ sz len =>
    have c5 := Nat.eq_of_beq_eq_true (bsel_some h).1
    replace h := (bsel_some h).2
    have c6 := Nat.le_of_ble_eq_true (bsel_some h).1
    replace h := (bsel_some h).2
    have c7 := Nat.le_of_ble_eq_true (bsel_some h).1
    replace h := (bsel_some h).2
    refine ⟨c5, c6, c7, ?_⟩
    obtain ⟨en, tm, bx, ⟨ob, fm, gr, ty, nx⟩⟩ := E
    simp only at h
    split at h
    case h_2 => cases h
    rename_i vs e2 hgr hty
    have hgr' : (ESt.to ⟨en, tm, bx, ⟨ob, fm, gr, ty, nx⟩⟩).h.gr τ = some vs := hgr
    have c8 := Nat.eq_of_beq_eq_true (bsel_some h).1
    replace h := (bsel_some h).2
    have c9 := Nat.eq_of_beq_eq_true (bsel_some h).1
    replace h := (bsel_some h).2
    rw [flen_eq] at c8
    subst c9
    simp only [forceList_eq, forceNat_eq, T.putK_eq, fapp_eq] at h
    simp only [hgr']
    refine ⟨c8, hty, ?_⟩
    have e' : (ESt.to ⟨en, tm, bx, ⟨ob, fm, gr, ty, nx⟩⟩).setGr τ (vs ++ xs) = (⟨en, tm, bx, ⟨ob, fm, gr.put (vs ++ xs) τ, ty, nx⟩⟩ : ESt).to := by
      unfold ESt.to EH.to VSt.setGr
      simp only [T.get_put_upd]
    rw [e']
    exact evPut_sound h
  · cases h

end
end Go.Pv

/- The evaluator: operations, regions, code, calls. -/
namespace Go.Pv
variable {P : Program}
section
variable {ρ : Type}

noncomputable def fsameKey : VVal → VVal → Option Bool
  | .str a, .str b => some (fstrEq a b)
  | x, y => sameKey x y

theorem fsameKey_eq (x y : VVal) : fsameKey x y = sameKey x y := by
  unfold fsameKey
  split
  · simp [sameKey, fstrEq_eq]
  · rfl

noncomputable def ffind (k : VVal) (es : List VEnt) : Nat → Option (Option Nat) :=
  List.rec (motive := fun _ => Nat → Option (Option Nat)) (fun _ => some none) (fun e _ ih n => match fsameKey k e.key with
    | some true => some (some n)
    | some false => ih (Nat.succ n)
    | none => none) es

theorem ffind_eq (k : VVal) (es : List VEnt) : ∀ n, ffind k es n = vfindIdx k es n := by
  induction es with
  | nil => intro n; rfl
  | cons e es ih =>
    intro n
    show (match fsameKey k e.key with | some true => some (some n) | some false => ffind k es (Nat.succ n) | none => none) = _
    rw [fsameKey_eq, ih]
    rw [vfindIdx]
    rfl

noncomputable def fmodify {α : Type} (f : α → α) (l : List α) : Nat → List α :=
  List.rec (motive := fun _ => Nat → List α) (fun _ => []) (fun x xs ih n => Nat.casesOn (motive := fun _ => List α) n (f x :: xs) (fun m => x :: ih m)) l

theorem fmodify_eq {α : Type} (f : α → α) (l : List α) : ∀ n, fmodify f l n = l.modify n f := by
  induction l with
  | nil => intro n; cases n <;> rfl
  | cons x xs ih =>
    intro n
    cases n with
    | zero => rfl
    | succ n => show x :: fmodify f xs n = _; rw [ih n]; simp

noncomputable def fins (k : VVal) (e : VEnt) (es : List VEnt) : List VEnt :=
  List.rec (motive := fun _ => List VEnt) [e] (fun x xs ih => bsel (keyLt k x.key) (e :: x :: xs) (x :: ih)) es

theorem fins_eq (e : VEnt) (es : List VEnt) : fins e.key e es = vins e es := by
  induction es with
  | nil => rfl
  | cons x xs ih =>
    show bsel (keyLt e.key x.key) (e :: x :: xs) (x :: fins e.key e xs) = _
    rw [ih, bsel_ite]; rfl

noncomputable def evMapPut (L : TypeId → Option TInfo) (E : ESt) (t : TypeId) (m k v : VVal) (K : ESt → Option ρ) : Option ρ :=
  match L t, m with
  | some i, .map (some o) => match i.shape, E.to.h.ob o with
    | .map kt _, some (.map es clock) => match L kt with
      | some ki => bsel (keyFits L ki k) (match ffind k es 0 with
        | some (some j) => forceList (fmodify (fun e => { e with key := k, val := v }) es j) fun es => evSetOb E o (.v (.map es clock)) K
        | some none => forceList (fins k { key := k, val := v } es) fun es => forceNat (Nat.succ clock) fun c => evSetOb E o (.v (.map es c)) K
        | none => none) none
      | none => none
    | _, _ => none
  | _, _ => none

theorem evMapPut_sound {E : ESt} {t : TypeId} {m k v : VVal} {K : ESt → Option ρ} {res : ρ} (h : evMapPut (layoutOf P) E t m k v K = some res) : VMapPut P E.to t m k v (fun st' => ∃ E', st' = E'.to ∧ K E' = some res) := by
  unfold evMapPut at h
  unfold VMapPut
  split at h
  case h_2 => cases h
  rename_i i o hi
  split at h
  case h_2 => cases h
  rename_i kt et es clock hsh hob
  split at h
  case h_2 => cases h
  rename_i ki hki
  have hkf := (bsel_some h).1
  replace h := (bsel_some h).2
  simp only [hi, hsh, hob, hki]
  refine ⟨hkf, ?_⟩
  rw [ffind_eq] at h
  split at h
  · next j hj =>
    simp only [hj]
    rw [forceList_eq, fmodify_eq] at h
    obtain ⟨E', e', h'⟩ := evSetOb_sound h
    exact ⟨E', e', h'⟩
  · next hj =>
    simp only [hj]
    rw [forceList_eq, forceNat_eq, show fins k { key := k, val := v } es = vins { key := k, val := v } es from fins_eq { key := k, val := v } es] at h
    obtain ⟨E', e', h'⟩ := evSetOb_sound h
    exact ⟨E', e', h'⟩
  · cases h

noncomputable def evMakeSlice (L : TypeId → Option TInfo) (E : ESt) (dst : Option Nat) (t : TypeId) (l c : VVal) (K : ESt → Option ρ) : Option ρ :=
  match L t, l, c with
  | some i, .int _ ln, .int _ cn => match i.shape with
    | .slice e => match L e with
      | some ei => if 0 ≤ ln ∧ ln ≤ cn ∧ cn * ei.bytes ≤ 140737488355328 ∧ cn ≤ 140737488355328 then (match ei.zero.bind vcells with
        | some zs => bsel (Nat.beq (flen zs) ei.size) (forceList (repCells zs (cn.toNat * ei.size)) fun cs => evNewTy E e (.v (.cells cs)) fun o E => evPut E dst (.mslice o 0 ln.toNat cn.toNat) K) none
        | none => none) else none
      | none => none
    | _ => none
  | _, _, _ => none

theorem evMakeSlice_sound {E : ESt} {dst : Option Nat} {t : TypeId} {l c : VVal} {K : ESt → Option ρ} {res : ρ} (h : evMakeSlice (layoutOf P) E dst t l c K = some res) : VMakeSlice P E.to dst t l c (fun st' => ∃ E', st' = E'.to ∧ K E' = some res) := by
  unfold evMakeSlice at h
  unfold VMakeSlice
  split at h
  case h_2 => cases h
  rename_i i k1 ln k2 cn hi
  split at h
  case h_2 => cases h
  rename_i e hsh
  split at h
  case h_2 => cases h
  rename_i ei hei
  split at h
  case isFalse => cases h
  rename_i hc
  simp only [hi, hsh, hei]
  refine ⟨hc.1, hc.2.1, hc.2.2.1, hc.2.2.2, ?_⟩
  split at h
  case h_2 => cases h
  rename_i zs hzs
  have c1 := Nat.eq_of_beq_eq_true (bsel_some h).1
  replace h := (bsel_some h).2
  rw [flen_eq] at c1
  rw [forceList_eq] at h
  simp only [hzs]
  refine ⟨c1, fun o _ ho => ?_⟩
  obtain ⟨E', e', h'⟩ := evNewTy_sound h o ho
  simp only [EObj.to] at e'
  rw [e']
  exact evPut_sound h'

/-- An iterator over a map. -/
noncomputable def evRangeOp (L : TypeId → Option TInfo) (E : ESt) (dst : Option Nat) (t : TypeId) (x : VVal) (K : ESt → Option ρ) : Option ρ :=
  match L t with
  | some i => match i.shape, x with
    | .map _ _, .map none => evNewOb E (.v (.iter none 0)) fun o E => evPut E dst (.ptr o 0) K
    | .map _ _, .map (some m) => match E.to.h.ob m with
      | some (.map _ clock) => evNewOb E (.v (.iter (some m) clock)) fun o E => evPut E dst (.ptr o 0) K
      | _ => none
    | _, _ => none
  | none => none

theorem evRangeOp_sound {E : ESt} {dst : Option Nat} {t : TypeId} {x : VVal} {K : ESt → Option ρ} {res : ρ} (h : evRangeOp (layoutOf P) E dst t x K = some res) : VRange P E.to dst t x (fun st' => ∃ E', st' = E'.to ∧ K E' = some res) := by
  unfold evRangeOp at h
  unfold VRange
  split at h
  case h_2 => cases h
  rename_i i hi
  simp only [hi]
  split at h
  · next hs =>
    simp only [hs]
    intro o _ ho
    obtain ⟨E', e', h'⟩ := evNewOb_sound h o ho
    simp only [EObj.to] at e'
    rw [e']
    exact evPut_sound h'
  · next hs =>
    split at h
    · next clock hob =>
      simp only [hs, hob]
      intro o _ ho
      obtain ⟨E', e', h'⟩ := evNewOb_sound h o ho
      simp only [EObj.to] at e'
      rw [e']
      exact evPut_sound h'
    · cases h
  · cases h

noncomputable def evCallOp (call : CallF) (E : ESt) (dst : Option Nat) (f : VVal) (args : List VVal) (K : ESt → Option ρ) (Kp : VVal → ESt → Option ρ) : Option ρ :=
  match f with
  | .func (.func k) first captured => match E with
    | ⟨n, tm, bx, h⟩ => match call k (fapp first (fapp args captured)) h with
      | some (.ret v, h') => evPut ⟨n, tm, bx, h'⟩ dst v K
      | some (.panic v, h') => Kp v ⟨n, tm, bx, h'⟩
      | none => none
  | _ => none

def CallsOk (P : Program) (call : CallF) : Prop := ∀ k args h out h', call k args h = some (out, h') → VCalls P k args h.to (fun o hh => o = out ∧ hh = h'.to)

theorem evCallOp_sound {call : CallF} (hcall : CallsOk P call) {E : ESt} {dst : Option Nat} {f : VVal} {args : List VVal} {K : ESt → Option ρ} {Kp : VVal → ESt → Option ρ} {res : ρ} (h : evCallOp call E dst f args K Kp = some res) :
    VCallOp P E.to dst f args (fun st' => ∃ E', st' = E'.to ∧ K E' = some res) (fun v st' => ∃ E', st' = E'.to ∧ Kp v E' = some res) := by
  unfold evCallOp at h
  unfold VCallOp
  split at h
  case h_2 => cases h
  rename_i k first captured
  obtain ⟨n, tm, bx, hh⟩ := E
  simp only [fapp_eq] at h
  simp only [List.append_assoc]
  split at h
  · next v h' hc =>
    refine VCalls.mono (hcall _ _ _ _ _ hc) fun o hh' ⟨e1, e2⟩ => ?_
    subst e1 e2
    exact evPut_sound h
  · next v h' hc =>
    refine VCalls.mono (hcall _ _ _ _ _ hc) fun o hh' ⟨e1, e2⟩ => ?_
    subst e1 e2
    exact ⟨_, rfl, h⟩
  · cases h

/-- Are a slice type's rows such that may be written over? -/
noncomputable def fgrowing (L : TypeId → Option TInfo) (t : TypeId) : Bool :=
  match L t with
  | some i => match i.shape with
    | .slice e => match L e with | some ei => ei.grow | none => false
    | _ => false
  | none => false

noncomputable def evStep (P : Program) (call : CallF) (esc : Nat → Bool) (E : ESt) (o : Oper) (K : ESt → Option ρ) (Kp : VVal → ESt → Option ρ) : Option ρ :=
  match o.op with
  | .store t a x => evStore (layoutOf P) E t (E.to.ev a) (E.to.ev x) fun E' => evPut E' o.dst .undef K
  | .alloc e => match layoutOf P e with
    | some i => match i.zero.bind vcells with
      | some cs => evNew esc E o.dst e cs K
      | none => none
    | none => none
  | .box t x => match vcells (E.to.ev x) with
    | some cs => evNew esc E o.dst t cs K
    | none => none
  | .makeMap _ none => evNewOb E (.v (.map [] 0)) fun m E' => evPut E' o.dst (.map (some m)) K
  | .mapUpdate t m k v => evMapPut (layoutOf P) E t (E.to.ev m) (E.to.ev k) (E.to.ev v) fun E' => evPut E' o.dst .undef K
  | .insert t m k v => evMapPut (layoutOf P) E t (E.to.ev m) (E.to.ev k) (E.to.ev v) fun E' => evPut E' o.dst .undef K
  | .makeSlice t l c => evMakeSlice (layoutOf P) E o.dst t (E.to.ev l) (E.to.ev c) K
  | .range t x => evRangeOp (layoutOf P) E o.dst t (E.to.ev x) K
  | .panic x => match E.to.ev x with
    | .iface t v => Kp (.iface t v) E
    | _ => none
  | .call { callee := .builtin .append, args, argTypes } => match args.toList, argTypes.toList with
    | [s, x], [t, xt] => match E.to.ev s, fgrowing (layoutOf P) t with
      | .rslice τ sz len, _ => evGrow (layoutOf P) (plainSource P xt) E o.dst t (.rslice τ sz len) (E.to.ev x) K
      | v, true => match v with
        | .slice [] 0 .nil => evGrow (layoutOf P) (plainSource P xt) E o.dst t (.slice [] 0 .nil) (E.to.ev x) K
        | v => evAppend (layoutOf P) (plainSource P xt) E o.dst t v (E.to.ev x) K
      | v, false => evAppend (layoutOf P) (plainSource P xt) E o.dst t v (E.to.ev x) K
    | _, _ => none
  | .call { callee := .value f, args, .. } => evCallOp call E o.dst (E.to.ev f) (E.to.evs args.toList) K Kp
  | op => match E.to.flight (layoutOf P) op with
    | some v => evPut E o.dst v K
    | none => none

theorem evStep_sound {call : CallF} (hcall : CallsOk P call) {esc : Nat → Bool} {E : ESt} {o : Oper} {K : ESt → Option ρ} {Kp : VVal → ESt → Option ρ} {res : ρ} (h : evStep P call esc E o K Kp = some res) :
    VStep P esc E.to o (fun st' => ∃ E', st' = E'.to ∧ K E' = some res) (fun v st' => ∃ E', st' = E'.to ∧ Kp v E' = some res) := by
  obtain ⟨dst, op, type, pos, after, guard⟩ := o
  unfold evStep at h
  unfold VStep
  simp only at h ⊢
  split at h
  · exact (evStore_sound h).mono fun s ⟨E', e', h'⟩ => by rw [e']; exact evPut_sound h'
  · split at h
    · next i hi =>
      split at h
      · next cs hz => simp only [hi, hz]; exact evNew_sound h
      · cases h
    · cases h
  · split at h
    · next cs hz => simp only [hz]; exact evNew_sound h
    · cases h
  · intro m _ hf
    obtain ⟨E', e', h'⟩ := evNewOb_sound h m hf
    simp only [EObj.to] at e'
    rw [e']
    exact evPut_sound h'
  · exact (evMapPut_sound h).mono fun s ⟨E', e', h'⟩ => by rw [e']; exact evPut_sound h'
  · exact (evMapPut_sound h).mono fun s ⟨E', e', h'⟩ => by rw [e']; exact evPut_sound h'
  · exact evMakeSlice_sound h
  · exact evRangeOp_sound h
  · split at h
    · next t v hv => simp only [hv]; exact ⟨_, rfl, h⟩
    · cases h
  · split at h
    · next s x t xt h1 h2 =>
      simp only [h1, h2]
      split at h
      · next hs => rw [hs]; exact .inr (evGrow_sound h)
      · split at h
        · next hs => rw [hs]; exact .inr (evGrow_sound h)
        · exact .inl (evAppend_sound h)
      · exact .inl (evAppend_sound h)
    · cases h
  · exact evCallOp_sound hcall h
  · split at h
    · next hl => rw [flight_eq] at hl; simp only [hl]; exact evPut_sound h
    · cases h

end
end Go.Pv

/- The evaluator: regions. -/
namespace Go.Pv
variable {P : Program}
section
variable {ρ : Type}

/-! ### Values that are the same -/
mutual
def vsame : VVal → VVal → Bool
  | .bool a, .bool b => a == b
  | .int k a, .int k' b => k == k' && a == b
  | .str a, .str b => a == b
  | .nilp, .nilp => true
  | .ptr o a, .ptr o' b => o == o' && a == b
  | .lptr s v a, .lptr s' v' b => s == s' && v == v' && a == b
  | .iptr a, .iptr b => vsames a b
  | .slice a n c, .slice b m d => vsames a b && n == m && decide (c = d)
  | .mslice o a b c, .mslice o' a' b' c' => o == o' && a == a' && b == b' && c == c'
  | .map a, .map b => a == b
  | .nilFunc, .nilFunc => true
  | .iface t a, .iface t' b => t == t' && vsame a b
  | .nilIface, .nilIface => true
  | .agg a, .agg b => vsames a b
  | .tuple a, .tuple b => vsames a b
  | .func (.func k) a b, .func (.func k') a' b' => k == k' && vsames a a' && vsames b b'
  | .yieldv a, .yieldv b => a == b
  | .rslice a b c, .rslice a' b' c' => a == a' && b == b' && c == c'
  | .gptr a b c d, .gptr a' b' c' d' => a == a' && b == b' && c == c' && d == d'
  | _, _ => false
def vsames : List VVal → List VVal → Bool
  | [], [] => true
  | a :: as, b :: bs => vsame a b && vsames as bs
  | _, _ => false
end

mutual
theorem vsame_eq : ∀ (a b : VVal), vsame a b = true → a = b
  | .bool a, b, h => by cases b <;> simp [vsame] at h; subst h; rfl
  | .int k a, b, h => by cases b <;> simp [vsame] at h; obtain ⟨rfl, rfl⟩ := h; rfl
  | .str a, b, h => by cases b <;> simp [vsame] at h; subst h; rfl
  | .nilp, b, h => by cases b <;> simp [vsame] at h; rfl
  | .ptr o a, b, h => by cases b <;> simp [vsame] at h; obtain ⟨rfl, rfl⟩ := h; rfl
  | .lptr s v a, b, h => by cases b <;> simp [vsame] at h; obtain ⟨⟨rfl, rfl⟩, rfl⟩ := h; rfl
  | .iptr a, b, h => by
    cases b <;> simp only [vsame, Bool.false_eq_true] at h
    rw [vsames_eq a _ h]
  | .slice a n c, b, h => by
    cases b <;> simp only [vsame, Bool.false_eq_true, Bool.and_eq_true, beq_iff_eq, decide_eq_true_eq] at h
    obtain ⟨⟨h1, rfl⟩, rfl⟩ := h
    rw [vsames_eq a _ h1]
  | .mslice o a c d, b, h => by cases b <;> simp [vsame] at h; obtain ⟨⟨⟨rfl, rfl⟩, rfl⟩, rfl⟩ := h; rfl
  | .map a, b, h => by cases b <;> simp [vsame] at h; subst h; rfl
  | .func (.func k) x y, b, h => by
    cases b
    case func fn x' y' =>
      cases fn
      case func k' =>
        simp only [vsame, Bool.and_eq_true, beq_iff_eq] at h
        obtain ⟨⟨rfl, h1⟩, h2⟩ := h
        rw [vsames_eq x _ h1, vsames_eq y _ h2]
      all_goals (simp [vsame] at h)
    all_goals (simp [vsame] at h)
  | .func (.method _) _ _, b, h => by cases b <;> simp [vsame] at h
  | .func (.methodOf _ _) _ _, b, h => by cases b <;> simp [vsame] at h
  | .func (.via _ _ _ _) _ _, b, h => by cases b <;> simp [vsame] at h
  | .func (.yield _) _ _, b, h => by cases b <;> simp [vsame] at h
  | .nilFunc, b, h => by cases b <;> simp [vsame] at h; rfl
  | .iface t a, b, h => by
    cases b <;> simp only [vsame, Bool.false_eq_true, Bool.and_eq_true, beq_iff_eq] at h
    obtain ⟨rfl, h1⟩ := h
    rw [vsame_eq a _ h1]
  | .nilIface, b, h => by cases b <;> simp [vsame] at h; rfl
  | .agg a, b, h => by
    cases b <;> simp only [vsame, Bool.false_eq_true] at h
    rw [vsames_eq a _ h]
  | .tuple a, b, h => by
    cases b <;> simp only [vsame, Bool.false_eq_true] at h
    rw [vsames_eq a _ h]
  | .undef, b, h => by cases b <;> simp [vsame] at h
  | .yieldv a, b, h => by cases b <;> simp [vsame] at h; subst h; rfl
  | .rslice a c d, b, h => by cases b <;> simp [vsame] at h; obtain ⟨⟨rfl, rfl⟩, rfl⟩ := h; rfl
  | .gptr a c d e, b, h => by cases b <;> simp [vsame] at h; obtain ⟨⟨⟨rfl, rfl⟩, rfl⟩, rfl⟩ := h; rfl
  | .fptr _ _, b, h => by cases b <;> simp [vsame] at h
theorem vsames_eq : ∀ (a b : List VVal), vsames a b = true → a = b
  | [], b, h => by cases b <;> simp [vsames] at h; rfl
  | a :: as, b, h => by
    cases b with
    | nil => simp [vsames] at h
    | cons b bs =>
      simp only [vsames, Bool.and_eq_true] at h
      rw [vsame_eq a b h.1, vsames_eq as bs h.2]
end

/-! ### A region in the text's order -/
noncomputable def evOps (P : Program) (call : CallF) (esc : Nat → Bool) (ops : Array Oper) (K : ESt → Option ρ) (Kp : VVal → ESt → Option ρ) (l : List Oper) : ESt → Option ρ :=
  List.rec (motive := fun _ => ESt → Option ρ) K (fun o _ ih E => match o.guard with
    | none => evStep P call esc E o ih Kp
    | some (j, want) => match (fget ops.toList j).bind (·.dst) with
      | some d => match E.to.tm d with
        | .bool b => match b, want with
          | true, true => evStep P call esc E o ih Kp
          | false, false => evStep P call esc E o ih Kp
          | true, false => evPut E o.dst (.tuple []) ih
          | false, true => evPut E o.dst (.tuple []) ih
        | .tuple _ => evPut E o.dst (.tuple []) ih
        | _ => none
      | none => none) l

theorem evOps_sound {call : CallF} (hcall : CallsOk P call) {esc : Nat → Bool} {ops : Array Oper} {K : ESt → Option ρ} {Kp : VVal → ESt → Option ρ} {Q : VExit → VSt → Prop} {res : ρ}
    (hk : ∀ E, K E = some res → Q .normal E.to) (hkp : ∀ v E, Kp v E = some res → Q (.panic v) E.to) : ∀ (l : List Oper) (E : ESt), evOps P call esc ops K Kp l E = some res → VOps P esc ops Q l E.to
  | [], E, h => hk E h
  | o :: rest, E, h => by
    have run : evStep P call esc E o (evOps P call esc ops K Kp rest) Kp = some res → VStep P esc E.to o (fun st' => VOps P esc ops Q rest st') (fun v st' => Q (.panic v) st') := fun h =>
      (evStep_sound hcall h).mono (fun s ⟨E', e', h'⟩ => by rw [e']; exact evOps_sound hcall hk hkp rest E' h') (fun v s ⟨E', e', h'⟩ => by rw [e']; exact hkp v E' h')
    have skip : evPut E o.dst (.tuple []) (evOps P call esc ops K Kp rest) = some res → VPut E.to o.dst (.tuple []) (fun st' => VOps P esc ops Q rest st') := fun h =>
      (evPut_sound h).mono fun s ⟨E', e', h'⟩ => by rw [e']; exact evOps_sound hcall hk hkp rest E' h'
    have h : (match o.guard with
      | none => evStep P call esc E o (evOps P call esc ops K Kp rest) Kp
      | some (j, want) => match (fget ops.toList j).bind (·.dst) with
        | some d => match E.to.tm d with
          | .bool b => match b, want with
            | true, true => evStep P call esc E o (evOps P call esc ops K Kp rest) Kp
            | false, false => evStep P call esc E o (evOps P call esc ops K Kp rest) Kp
            | true, false => evPut E o.dst (.tuple []) (evOps P call esc ops K Kp rest)
            | false, true => evPut E o.dst (.tuple []) (evOps P call esc ops K Kp rest)
          | .tuple _ => evPut E o.dst (.tuple []) (evOps P call esc ops K Kp rest)
          | _ => none
        | none => none) = some res := h
    unfold VOps
    split at h
    · next hg => simp only [hg]; exact run h
    · next j want hg =>
      simp only [hg]
      split at h
      · next d hd =>
        have hd' : (ops[j]?).bind (·.dst) = some d := by rw [fget_eq] at hd; simpa using hd
        simp only [hd']
        split at h
        · next b hb =>
          simp only [hb]
          split at h
          · exact run h
          · exact run h
          · exact skip h
          · exact skip h
        · next vs hb => simp only [hb]; exact skip h
        · cases h
      · cases h

/-! ### A region that draws its order -/
def isHeavy : Op → Bool
  | .store .. | .alloc _ | .box .. | .makeMap .. | .mapUpdate .. | .insert .. | .makeSlice .. | .range .. | .panic _ => true
  | .call { callee := .builtin .append, .. } => true
  | .call { callee := .value _, .. } => true
  | _ => false

/-- Does it write a slot that one before it looks at? -/
def overwrites (ops : Array Oper) (i : Nat) (o : Oper) : Bool := match o.dst with
  | some t => (List.range ops.size).any fun k => match ops[k]? with | some q => (q.looksAt ops).contains t && bef ops i k | none => false
  | none => false

def heavyAt0 (ops : Array Oper) (i : Nat) : Bool := match ops[i]? with | some o => isHeavy o.op || overwrites ops i o | none => false

/-- Is it one that makes an object at whatever time? -/
def floats (ops : Array Oper) (i : Nat) : Bool := match ops[i]? with
  | some o => isFloat o.op && o.guard.isNone && !overwrites ops i o && (List.range ops.size).any fun k => k != i && heavyAt0 ops k && !bef ops i k && !bef ops k i
  | none => false

def heavyAt (ops : Array Oper) (i : Nat) : Bool := heavyAt0 ops i && !floats ops i

def mkPlan (ops : Array Oper) : List Stage :=
  let idx := List.range ops.size
  let hs := idx.filter (heavyAt ops)
  let ls := idx.filter (fun i => !heavyAt ops i)
  (List.range (hs.length + 1)).map fun k =>
    { lights := ls.filter (fun i => hs.countP (bef ops i ·) == k)
      re := match k with | 0 => [] | k + 1 => match hs[k]? with | some h => ls.filter (fun i => decide (hs.countP (bef ops i ·) ≤ k) && readsAt ops i && !bef ops h i) | none => []
      heavy := hs[k]? }

noncomputable def fwant (E : ESt) (ops : Array Oper) (o : Oper) : Option Bool :=
  match o.guard with
  | none => some true
  | some (j, want) => match (fget ops.toList j).bind (·.dst) with
    | some d => match E.to.tm d with
      | .bool b => some (b == want)
      | .tuple _ => some false
      | _ => none
    | none => none

theorem fwant_eq (E : ESt) (ops : Array Oper) (o : Oper) : fwant E ops o = wantV E.to ops o := by
  unfold fwant wantV
  simp only [fget_eq]
  cases o.guard with
  | none => rfl
  | some p => obtain ⟨j, w⟩ := p; simp only [Array.getElem?_toList]; rfl

noncomputable def fval (P : Program) (E : ESt) (ops : Array Oper) (o : Oper) : Option VVal :=
  match fwant E ops o with
  | some true => E.to.flight (layoutOf P) o.op
  | some false => some (.tuple [])
  | none => none

theorem fval_eq (E : ESt) (ops : Array Oper) (o : Oper) : fval P E ops o = lval P E.to ops o := by
  unfold fval lval
  rw [fwant_eq, flight_eq]
  rfl

/-- A name is taken. -/
noncomputable def evBump (E : ESt) (K : Nat → ESt → Option ρ) : Option ρ :=
  match E with
  | ⟨n, tm, bx, ⟨ob, fm, gr, ty, nx⟩⟩ => forceNat (Nat.succ nx) fun nx' => K nx ⟨n, tm, bx, ⟨ob, fm, gr, ty, nx'⟩⟩

theorem evBump_sound {E : ESt} {K : Nat → ESt → Option ρ} {res : ρ} (h : evBump E K = some res) : ∀ r, E.to.Free r → ∃ E', E.to.bump = E'.to ∧ K r E' = some res := by
  intro r hr
  obtain ⟨n, tm, bx, ⟨ob, fm, gr, ty, nx⟩⟩ := E
  have : r = nx := hr nx rfl
  subst this
  simp only [evBump, forceNat_eq] at h
  exact ⟨_, rfl, h⟩

noncomputable def evLights (P : Program) (ops : Array Oper) (K : ESt → List Pend → Option ρ) (l : List Nat) : ESt → List Pend → Option ρ :=
  List.rec (motive := fun _ => ESt → List Pend → Option ρ) K (fun i _ ih E pd => match fget ops.toList i with
    | some o => match isFloat o.op with
      | true => match o.guard with
        | none => match vfloat P E.to o.op with
          | some (cs, e, mk) => forceList cs fun cs => evBump E fun r E => evPut E o.dst (mk r) fun E => ih E (⟨i, r, cs, e⟩ :: pd)
          | none => none
        | some _ => none
      | false => match fval P E ops o with
        | some v => evPut E o.dst v fun E => ih E pd
        | none => none
    | none => none) l

theorem evLights_sound {ops : Array Oper} {K : ESt → List Pend → Option ρ} {K' : VSt → List Pend → Prop} {res : ρ} (hk : ∀ E pd, K E pd = some res → K' E.to pd) : ∀ (l : List Nat) (E : ESt) (pd : List Pend), evLights P ops K l E pd = some res → VLights P ops l E.to pd K'
  | [], E, pd, h => hk E pd h
  | i :: is, E, pd, h => by
    have h : (match fget ops.toList i with
      | some o => match isFloat o.op with
        | true => match o.guard with
          | none => match vfloat P E.to o.op with
            | some (cs, e, mk) => forceList cs fun cs => evBump E fun r E => evPut E o.dst (mk r) fun E => evLights P ops K is E (⟨i, r, cs, e⟩ :: pd)
            | none => none
          | some _ => none
        | false => match fval P E ops o with
          | some v => evPut E o.dst v fun E => evLights P ops K is E pd
          | none => none
      | none => none) = some res := h
    unfold VLights
    split at h
    · next o ho =>
      have ho' : ops[i]? = some o := by rw [fget_eq] at ho; simpa using ho
      simp only [ho']
      split at h
      · next hfl =>
        simp only [hfl]
        split at h
        · next hg =>
          refine ⟨hg, ?_⟩
          split at h
          · next cs e mk hv =>
            simp only [hv]
            rw [forceList_eq] at h
            intro r hr
            obtain ⟨E', e', h'⟩ := evBump_sound h r hr
            rw [e']
            exact (evPut_sound h').mono fun s ⟨E2, e2, h2⟩ => by rw [e2]; exact evLights_sound hk is E2 _ h2
          · cases h
        · cases h
      · next hfl =>
        simp only [hfl]
        split at h
        · next v hv =>
          rw [fval_eq] at hv
          simp only [hv]
          exact (evPut_sound h).mono fun s ⟨E', e', h'⟩ => by rw [e']; exact evLights_sound hk is E' pd h'
        · cases h
    · cases h

noncomputable def evLand (E : ESt) (p : Pend) : ESt :=
  match E with
  | ⟨n, tm, bx, ⟨ob, fm, gr, ty, nx⟩⟩ => ⟨n, tm, bx, ⟨ob.put (.v (.cells p.cs)) p.r, fm, gr, ty.put p.e p.r, nx⟩⟩

theorem evLand_to (E : ESt) (p : Pend) : (evLand E p).to = E.to.land p := by
  obtain ⟨n, tm, bx, ⟨ob, fm, gr, ty, nx⟩⟩ := E
  unfold evLand ESt.to EH.to VSt.land VSt.setOb VSt.setTy
  simp only [ob_put]
  simp only [T.get_put_upd]
  rfl

noncomputable def evLands (l : List Pend) : ESt → ESt :=
  List.rec (motive := fun _ => ESt → ESt) (fun E => E) (fun p _ ih E => ih (evLand E p)) l

theorem evLands_to : ∀ (l : List Pend) (E : ESt), (evLands l E).to = E.to.lands l
  | [], _ => rfl
  | p :: l, E => by
    show (evLands l (evLand E p)).to = (E.to.land p).lands l
    rw [evLands_to l, evLand_to]

noncomputable def evRe (P : Program) (ops : Array Oper) (E : ESt) (l : List Nat) : Bool :=
  List.rec (motive := fun _ => Bool) true (fun i _ ih => match fget ops.toList i with
    | some o => match fval P E ops o with
      | some v => bsel (vsame v (E.to.dst o.dst)) ih false
      | none => false
    | none => false) l

theorem evRe_sound {ops : Array Oper} {E : ESt} : ∀ (l : List Nat), evRe P ops E l = true → VRe P ops l E.to
  | [], _ => trivial
  | i :: is, h => by
    have h : (match fget ops.toList i with
      | some o => match fval P E ops o with
        | some v => bsel (vsame v (E.to.dst o.dst)) (evRe P ops E is) false
        | none => false
      | none => false) = true := h
    unfold VRe
    split at h
    · next o ho =>
      have ho' : ops[i]? = some o := by rw [fget_eq] at ho; simpa using ho
      simp only [ho']
      split at h
      · next v hv =>
        rw [fval_eq] at hv
        rw [bsel_ite] at h
        split at h
        · next hs => exact ⟨by rw [hv, vsame_eq _ _ hs], evRe_sound is h⟩
        · cases h
      · cases h
    · cases h

noncomputable def evMask (tm : T VVal) (ops : List Oper) : T VVal :=
  List.rec (motive := fun _ => T VVal) tm (fun o _ ih => match o.dst with | some d => ih.put VVal.undef d | none => ih) ops

theorem evMask_get (tm : T VVal) (ops : List Oper) (k : Nat) : ((evMask tm ops).get k).getD VVal.undef = if ops.any (fun o => o.dst == some k) then VVal.undef else (tm.get k).getD VVal.undef := by
  induction ops with
  | nil => rfl
  | cons o ops ih =>
    show ((match o.dst with | some d => (evMask tm ops).put VVal.undef d | none => evMask tm ops).get k).getD VVal.undef = _
    cases hd : o.dst with
    | none => simp [ih, hd]
    | some d =>
      simp only [T.get_put]
      by_cases e : k = d
      · subst e; simp [hd]
      · have : (d == k) = false := beq_eq_false_iff_ne.2 (fun q => e q.symm)
        simp [e, ih, hd, this]

noncomputable def evMaskE (E : ESt) (ops : Array Oper) : ESt := match E with | ⟨n, tm, bx, h⟩ => ⟨n, evMask tm ops.toList, bx, h⟩

theorem evMaskE_to (E : ESt) (ops : Array Oper) : (evMaskE E ops).to = E.to.withTm (maskTm ops E.to.tm) := by
  obtain ⟨n, tm, bx, h⟩ := E
  unfold evMaskE ESt.to VSt.withTm maskTm
  simp only [evMask_get, Array.any_toList]

noncomputable def evStages (P : Program) (call : CallF) (esc : Nat → Bool) (ops : Array Oper) (K : ESt → Option ρ) (Kp : VVal → ESt → Option ρ) (l : List Stage) : ESt → List Pend → Option ρ :=
  List.rec (motive := fun _ => ESt → List Pend → Option ρ) (fun _ _ => none) (fun s _ ih E pd => evLights P ops (fun E pd => bsel (evRe P ops E s.re) (match s.heavy with
      | none => K (evLands pd E)
      | some h => match fget ops.toList h with
        | some o => match fwant (evLands (landed ops h pd) E) ops o with
          | some true => evStep P call esc (evLands (landed ops h pd) E) o (fun E => ih E (waiting ops h pd)) (fun v E => Kp v (evMaskE E ops))
          | some false => evPut (evLands (landed ops h pd) E) o.dst (.tuple []) (fun E => ih E (waiting ops h pd))
          | none => none
        | none => none) none) s.lights E pd) l

theorem evStages_sound {call : CallF} (hcall : CallsOk P call) {esc : Nat → Bool} {ops : Array Oper} {K : ESt → Option ρ} {Kp : VVal → ESt → Option ρ} {Q : VExit → VSt → Prop} {res : ρ}
    (hk : ∀ E, K E = some res → Q .normal E.to) (hkp : ∀ v E, Kp v E = some res → Q (.panic v) E.to) : ∀ (l : List Stage) (E : ESt) (pd : List Pend), evStages P call esc ops K Kp l E pd = some res → VStages P esc ops Q l E.to pd
  | [], E, pd, h => by cases h
  | s :: rest, E, pd, h => by
    have h : evLights P ops (fun E pd => bsel (evRe P ops E s.re) (match s.heavy with
      | none => K (evLands pd E)
      | some h => match fget ops.toList h with
        | some o => match fwant (evLands (landed ops h pd) E) ops o with
          | some true => evStep P call esc (evLands (landed ops h pd) E) o (fun E => evStages P call esc ops K Kp rest E (waiting ops h pd)) (fun v E => Kp v (evMaskE E ops))
          | some false => evPut (evLands (landed ops h pd) E) o.dst (.tuple []) (fun E => evStages P call esc ops K Kp rest E (waiting ops h pd))
          | none => none
        | none => none) none) s.lights E pd = some res := h
    unfold VStages
    refine evLights_sound (fun E pd h => ?_) _ _ _ h
    have hre := (bsel_some h).1
    replace h := (bsel_some h).2
    refine ⟨evRe_sound _ hre, ?_⟩
    split at h
    · next hh =>
      simp only [hh]
      have := hk _ h
      rw [evLands_to] at this
      exact this
    · next x hh =>
      simp only [hh]
      split at h
      · next o ho =>
        have ho' : ops[x]? = some o := by rw [fget_eq] at ho; simpa using ho
        simp only [ho']
        rw [← evLands_to]
        unfold VGuarded
        rw [← fwant_eq]
        split at h
        · next hw =>
          simp only [hw]
          exact (evStep_sound hcall h).mono (fun s ⟨E', e', h'⟩ => by rw [e']; exact evStages_sound hcall hk hkp rest E' _ h')
            (fun v s ⟨E', e', h'⟩ => by rw [e', ← evMaskE_to]; exact hkp v _ h')
        · next hw =>
          simp only [hw]
          exact (evPut_sound h).mono fun s ⟨E', e', h'⟩ => by rw [e']; exact evStages_sound hcall hk hkp rest E' _ h'
        · cases h
      · cases h

end
end Go.Pv

/- The evaluator: yields, deferring, code. -/
namespace Go.Pv
variable {P : Program}

abbrev CodeF := Bool → Code → ESt → List VDef → Option (VExit × ESt × List VDef)

def RecOk (P : Program) (rec : CodeF) : Prop := ∀ rd c E df e E' df', rec rd c E df = some (e, E', df') → VX P rd c (fun e1 st1 d1 => e1 = e ∧ st1 = E'.to ∧ d1 = df') E.to df

section
variable {ρ : Type}

def jstate (j : Option Code) : LoopState := match j with | none => .ready | some _ => .done
def jbool (j : Option Code) : Bool := match j with | none => true | some _ => false

theorem jstate_eq (j : Option Code) : (if j.isNone then LoopState.ready else .done) = jstate j := by cases j <;> rfl
theorem jbool_eq (j : Option Code) : j.isNone = jbool j := by cases j <;> rfl

noncomputable def evYield (rec : CodeF) (E : ESt) (dst : Option Nat) (y : Nat) (args : List VVal) (K : ESt → Option ρ) : Option ρ :=
  match E with
  | ⟨en, etm, ebx, eh⟩ => match eh.ob.get y, args with
    | some (.loop n t params assign body _ _), [v] => match params.toList with
      | [p] => bsel (Nat.ble (Nat.succ p) n) (t.putK v p fun t => match rec true assign ⟨n, t, .leaf, eh⟩ [] with
        | some (.normal, E2, []) => match E2.h.ob.get y with
          | some (.loop n2 t2 ps2 a2 b2 .ready pd2) => evSetOb E2 y (.loop n2 t2 ps2 a2 b2 .busy pd2) fun E2 => match rec true body E2 [] with
            | some (e3, E3, _) => match E3.h.ob.get y, endJump e3 with
              | some (.loop n3 t3 ps3 a3 b3 _ _), some j => evSetOb E3 y (.loop n3 t3 ps3 a3 b3 (jstate j) j) fun E4 => match E4 with
                | ⟨_, _, _, h4⟩ => evPut ⟨en, etm, ebx, h4⟩ dst (.bool (jbool j)) K
              | _, _ => none
            | none => none
          | _ => none
        | _ => none) none
      | _ => none
    | _, _ => none

theorem obto {E : ESt} {y : Nat} {x : EObj} (h : E.h.ob.get y = some x) : E.to.h.ob y = some x.to := by
  show (E.h.ob.get y).map EObj.to = _
  rw [h]; rfl

theorem evYield_sound {rec : CodeF} (hrec : RecOk P rec) {E : ESt} {dst : Option Nat} {y : Nat} {args : List VVal} {K : ESt → Option ρ} {K' : VSt → Prop} {res : ρ} (hk : ∀ E, K E = some res → K' E.to) (h : evYield rec E dst y args K = some res) :
    VYield P E.to dst y args K' := by
  obtain ⟨en, etm, ebx, eh⟩ := E
  unfold evYield at h
  simp only at h
  split at h
  case h_2 => cases h
  rename_i n t params assign body s0 pd0 v hob
  split at h
  case h_2 => cases h
  rename_i p hp
  have hpn := Nat.le_of_ble_eq_true (bsel_some h).1
  replace h := (bsel_some h).2
  rw [T.putK_eq] at h
  split at h
  case h_2 => cases h
  rename_i E2 hr1
  split at h
  case h_2 => cases h
  rename_i n2 t2 ps2 a2 b2 pd2 hob2
  obtain ⟨E2', e2', h⟩ := evSetOb_sound h
  split at h
  case h_2 => cases h
  rename_i e3 E3 df3 hr2
  split at h
  case h_2 => cases h
  rename_i n3 t3 ps3 a3 b3 s3 pd3 j hob3 hj
  obtain ⟨E4, e4, h⟩ := evSetOb_sound h
  refine ⟨_, p, v, obto (E := ⟨en, etm, ebx, eh⟩) hob, ?_, rfl, hpn, ?_⟩
  · apply Array.toList_inj.1; simpa [EObj.to] using hp
  · have hstart : ({ n := n, tm := upd (fun k => (t.get k).getD .undef) p v, bx := fun _ => none, h := (ESt.to ⟨en, etm, ebx, eh⟩).h } : VSt) = (⟨n, t.put v p, .leaf, eh⟩ : ESt).to := by
      have := to_put n t .leaf eh p v
      exact this
    have h1 := hrec _ _ _ _ _ _ _ hr1
    rw [← hstart] at h1
    refine VX.mono h1 ?_
    rintro e1 st1 d1 ⟨rfl, rfl, rfl⟩
    refine ⟨rfl, rfl, _, obto hob2, rfl, ?_⟩
    have h2 := hrec _ _ _ _ _ _ _ hr2
    rw [← e2'] at h2
    refine VX.mono h2 ?_
    rintro e5 st5 d5 ⟨rfl, rfl, rfl⟩
    refine ⟨_, j, obto hob3, hj, ?_⟩
    obtain ⟨n4, tm4, bx4, h4⟩ := E4
    simp only at h
    have := evPut_sound h
    have e4' : (E3.to.setOb y (.loop { n := n3, tm := fun k => (t3.get k).getD .undef, params := ps3, assign := a3, body := b3, state := jstate j, pending := j })).h = (ESt.to ⟨n4, tm4, bx4, h4⟩).h := congrArg VSt.h e4
    have goal : VPut ((ESt.to ⟨en, etm, ebx, eh⟩).setH (E3.to.setOb y (.loop { n := n3, tm := fun k => (t3.get k).getD .undef, params := ps3, assign := a3, body := b3, state := jstate j, pending := j })).h) dst (.bool (jbool j)) K' := by
      rw [e4']
      exact this.mono fun s ⟨E', e', h'⟩ => by rw [e']; exact hk E' h'
    rw [← jbool_eq, ← jstate_eq] at goal
    exact goal

noncomputable def evStepX (P : Program) (rec : CodeF) (rd : Bool) (call : CallF) (esc : Nat → Bool) (E : ESt) (df : List VDef) (o : Oper) (K : ESt → List VDef → Option ρ) (Kp : VVal → ESt → List VDef → Option ρ) : Option ρ :=
  match o.op with
  | .defer { callee := .value f, args, .. } => match E.to.ev f with
    | .func (.func k) first captured => match rd with
      | true => none
      | false => evPut E o.dst (.tuple []) fun E' => K E' (.call k (first ++ E.to.evs args.toList ++ captured) :: df)
    | _ => none
  | .defer _ => none
  | .call { callee := .value f, args, .. } => match E.to.ev f with
    | .yieldv y => evYield rec E o.dst y (E.to.evs args.toList) (fun E' => K E' df)
    | _ => evStep P call esc E o (fun E' => K E' df) (fun v E' => Kp v E' df)
  | _ => evStep P call esc E o (fun E' => K E' df) (fun v E' => Kp v E' df)

theorem evStepX_sound {rec : CodeF} (hrec : RecOk P rec) {call : CallF} (hcall : CallsOk P call) {rd : Bool} {esc : Nat → Bool} {E : ESt} {df : List VDef} {o : Oper} {K : ESt → List VDef → Option ρ} {Kp : VVal → ESt → List VDef → Option ρ}
    {next : VSt → List VDef → Prop} {Qp : VVal → VSt → List VDef → Prop} {res : ρ} (hk : ∀ E df, K E df = some res → next E.to df) (hkp : ∀ v E df, Kp v E df = some res → Qp v E.to df)
    (h : evStepX P rec rd call esc E df o K Kp = some res) : VStepX P rd esc E.to df o next Qp := by
  have plain : evStep P call esc E o (fun E' => K E' df) (fun v E' => Kp v E' df) = some res → VStep P esc E.to o (fun st' => next st' df) (fun v st' => Qp v st' df) := fun h =>
    (evStep_sound hcall h).mono (fun s ⟨E', e', h'⟩ => by rw [e']; exact hk E' df h') (fun v s ⟨E', e', h'⟩ => by rw [e']; exact hkp v E' df h')
  obtain ⟨dst, op, type, pos, after, guard⟩ := o
  unfold evStepX at h
  unfold VStepX
  simp only at h plain ⊢
  split at h
  · split at h
    · next k first captured hf =>
      split at h
      · cases h
      · simp only [hf]
        exact ⟨trivial, (evPut_sound h).mono fun s ⟨E', e', h'⟩ => by rw [e']; exact hk _ _ h'⟩
    · cases h
  · cases h
  · next f args argTypes =>
    split at h
    · next y hf => simp only [hf]; exact evYield_sound hrec (fun E h => hk E df h) h
    · next hf =>
      have h2 := plain h
      cases hv : E.to.ev f <;> simp only [hv] <;> first | exact h2 | exact absurd hv (hf _)
  · next h1 h2 h3 =>
    have hp := plain h
    split
    · exact absurd rfl (h2 _)
    · exact absurd rfl (h2 _)
    · exact absurd rfl (h3 _ _ _)
    · exact hp

noncomputable def evOpsX (P : Program) (rec : CodeF) (rd : Bool) (call : CallF) (esc : Nat → Bool) (K : ESt → List VDef → Option ρ) (Kp : VVal → ESt → List VDef → Option ρ) (l : List Oper) : ESt → List VDef → Option ρ :=
  List.rec (motive := fun _ => ESt → List VDef → Option ρ) K (fun o _ ih E df => match o.guard with
    | none => evStepX P rec rd call esc E df o ih Kp
    | some _ => none) l

theorem evOpsX_sound {rec : CodeF} (hrec : RecOk P rec) {call : CallF} (hcall : CallsOk P call) {rd : Bool} {esc : Nat → Bool} {K : ESt → List VDef → Option ρ} {Kp : VVal → ESt → List VDef → Option ρ} {Q : XQ} {res : ρ}
    (hk : ∀ E df, K E df = some res → Q .normal E.to df) (hkp : ∀ v E df, Kp v E df = some res → Q (.panic v) E.to df) : ∀ (l : List Oper) (E : ESt) (df : List VDef), evOpsX P rec rd call esc K Kp l E df = some res → VOpsX P rd esc Q l E.to df
  | [], E, df, h => hk E df h
  | o :: rest, E, df, h => by
    have h : (match o.guard with
      | none => evStepX P rec rd call esc E df o (evOpsX P rec rd call esc K Kp rest) Kp
      | some _ => none) = some res := h
    split at h
    · next hg => exact ⟨hg, evStepX_sound hrec hcall (fun E df h => evOpsX_sound hrec hcall hk hkp rest E df h) hkp h⟩
    · cases h

end

abbrev XR := VExit × ESt × List VDef

noncomputable def evScope (rec : CodeF) (rd : Bool) (c : Code) (fuel : Nat) : Code → ESt → List VDef → Option XR :=
  Nat.rec (motive := fun _ => Code → ESt → List VDef → Option XR) (fun _ _ _ => none) (fun _ ih cur E df => match rec rd cur E df with
    | some (.goto l, E', df') => match findLabel c l with
      | some rest => ih rest E' df'
      | none => none
    | r => r) fuel

noncomputable def evLoop (rec : CodeF) (rd : Bool) (c : Code) (fuel : Nat) : ESt → List VDef → Option XR :=
  Nat.rec (motive := fun _ => ESt → List VDef → Option XR) (fun _ _ => none) (fun _ ih E df => match rec rd c E df with
    | some (.normal, E', df') => ih E' df'
    | r => r) fuel

def noGuards (ops : Array Oper) : Bool := ops.all fun o => o.guard.isNone

noncomputable def evRegion (P : Program) (rec : CodeF) (rd : Bool) (call : CallF) (ops : Array Oper) (draw : Bool) (E : ESt) (df : List VDef) : Option XR :=
  bsel draw
    (bsel (noDefer ops) (bsel (planOk ops (mkPlan ops)) (evStages P call (fun _ => true) ops (fun E' => some (.normal, E', df)) (fun v E' => some (.panic v, E', df)) (mkPlan ops) E []) none) none)
    (bsel (noGuards ops) (evOpsX P rec rd call (fun _ => true) (fun E' df' => some (.normal, E', df')) (fun v E' df' => some (.panic v, E', df')) ops.toList E df)
      (bsel (noDefer ops) (evOps P call (fun _ => true) ops (fun E' => some (.normal, E', df)) (fun v E' => some (.panic v, E', df)) ops.toList E) none))

noncomputable def evRange (funcs : Nat → Option Func) (rec : CodeF) (call : CallF) (g : VVal) (ps : Array Tmp) (assign body : Code) (E : ESt) (df : List VDef) : Option XR :=
  match g with
  | .func (.func k) first captured => match funcs k with
    | some fn => match fn.body with
      | some _ => bsel (fn.name == "runtime.NumGoroutine") none (match E with
        | ⟨en, etm, ebx, eh⟩ => evNewOb ⟨en, etm, ebx, eh⟩ (.v (.raw (.deferred (some [])))) fun od E1 => evNewOb E1 (.loop en etm ps assign body .ready none) fun ol E2 => match call k (first ++ [.yieldv ol] ++ captured) E2.h with
          | some (.ret _, h') => match h'.ob.get ol with
            | some (.loop n' t' ps' a' b' s' p') => match s' with
              | .busy => none
              | _ => evSetOb ⟨en, etm, ebx, h'⟩ ol (.loop n' t' ps' a' b' .exhausted p') fun E3 => match p' with
                | none => some (.normal, E3, .mark od :: df)
                | some c => rec false c E3 (.mark od :: df)
            | _ => none
          | some (.panic v, h') => some (.panic v, ⟨en, etm, ebx, h'⟩, .mark od :: df)
          | none => none)
      | none => none
    | none => none
  | _ => none

noncomputable def evCode (P : Program) (funcs : Nat → Option Func) (call : CallF) (fuel : Nat) : CodeF :=
  Nat.rec (motive := fun _ => CodeF) (fun _ _ _ _ => none) (fun n rec rd c E df => match c with
    | .skip => some (.normal, E, df)
    | .label _ => some (.normal, E, df)
    | .exit i => some (.exit i, E, df)
    | .goto l => some (.goto l, E, df)
    | .ret => some (.ret, E, df)
    | .seq a b => match rec rd a E df with
      | some (.normal, E', df') => rec rd b E' df'
      | r => r
    | .cond c x y => match E.to.ev c with
      | .bool true => rec rd x E df
      | .bool false => rec rd y E df
      | _ => none
    | .block id c => match rec rd c E df with
      | some (.exit j, E', df') => bsel (Nat.beq j id) (some (.normal, E', df')) (some (.exit j, E', df'))
      | r => r
    | .loop c => evLoop rec rd c n E df
    | .scope c => evScope rec rd c n c E df
    | .region _ ops draw => evRegion P rec rd call ops draw E df
    | .rangeFunc g ps assign body => match rd with
      | true => none
      | false => evRange funcs rec call (E.to.ev g) ps assign body E df
    | .refuse _ => none) fuel

def FuncsOk (P : Program) (funcs : Nat → Option Func) : Prop := ∀ k fn, funcs k = some fn → P.funcs[k]? = some fn

end Go.Pv

/- The evaluator: code and calls, sound. -/
namespace Go.Pv
variable {P : Program}

def exactly (e : VExit) (E : ESt) (df : List VDef) : XQ := fun e1 st1 d1 => e1 = e ∧ st1 = E.to ∧ d1 = df

section
variable {rec : CodeF} {call : CallF} {funcs : Nat → Option Func}

theorem evLoop_sound (hrec : RecOk P rec) {rd : Bool} {c : Code} {fuel : Nat} {E : ESt} {df : List VDef} {e : VExit} {E' : ESt} {df' : List VDef} (h : evLoop rec rd c fuel E df = some (e, E', df')) : VX P rd (.loop c) (exactly e E' df') E.to df := by
  refine vx_loop (I := fun n st d => ∃ E1, st = E1.to ∧ evLoop rec rd c n E1 d = some (e, E', df')) (n := fuel) ⟨E, rfl, h⟩ ?_
  rintro n st d ⟨E1, rfl, h1⟩
  cases n with
  | zero => cases h1
  | succ n =>
    have h1 : (match rec rd c E1 d with
      | some (.normal, E', df') => evLoop rec rd c n E' df'
      | r => r) = some (e, E', df') := h1
    split at h1
    · next E2 d2 hr =>
      refine VX.mono (hrec _ _ _ _ _ _ _ hr) ?_
      rintro e3 st3 d3 ⟨rfl, rfl, rfl⟩
      exact ⟨n, Nat.lt_succ_self n, E2, rfl, h1⟩
    · next hne =>
      refine VX.mono (hrec _ _ _ _ _ _ _ h1) ?_
      rintro e3 st3 d3 ⟨rfl, rfl, rfl⟩
      cases e3 with
      | normal => exact absurd h1 (hne _ _)
      | _ => exact ⟨rfl, rfl, rfl⟩

theorem evScope_sound (hrec : RecOk P rec) {rd : Bool} {c : Code} {fuel : Nat} {E : ESt} {df : List VDef} {e : VExit} {E' : ESt} {df' : List VDef} (h : evScope rec rd c fuel c E df = some (e, E', df')) : VX P rd (.scope c) (exactly e E' df') E.to df := by
  refine vx_scope (I := fun n cur st d => ∃ E1, st = E1.to ∧ evScope rec rd c n cur E1 d = some (e, E', df')) (n := fuel) ⟨E, rfl, h⟩ ?_
  rintro n cur st d ⟨E1, rfl, h1⟩
  cases n with
  | zero => cases h1
  | succ n =>
    have h1 : (match rec rd cur E1 d with
      | some (.goto l, E', df') => match findLabel c l with
        | some rest => evScope rec rd c n rest E' df'
        | none => none
      | r => r) = some (e, E', df') := h1
    split at h1
    · next l E2 d2 hr =>
      split at h1
      · next rest hf =>
        refine VX.mono (hrec _ _ _ _ _ _ _ hr) ?_
        rintro e3 st3 d3 ⟨rfl, rfl, rfl⟩
        exact ⟨rest, hf, n, Nat.lt_succ_self n, E2, rfl, h1⟩
      · cases h1
    · next hne =>
      refine VX.mono (hrec _ _ _ _ _ _ _ h1) ?_
      rintro e3 st3 d3 ⟨rfl, rfl, rfl⟩
      cases e3 with
      | goto l => exact absurd h1 (hne _ _ _)
      | _ => exact ⟨rfl, rfl, rfl⟩

theorem evRegion_sound (hmix : P.follows .mixedOrders = true) (hrec : RecOk P rec) (hcall : CallsOk P call) {rd : Bool} {id : Nat} {ops : Array Oper} {draw : Bool} {E : ESt} {df : List VDef} {e : VExit} {E' : ESt} {df' : List VDef} (h : evRegion P rec rd call ops draw E df = some (e, E', df')) :
    VX P rd (.region id ops draw) (exactly e E' df') E.to df := by
  unfold evRegion at h
  rw [bsel_ite] at h
  cases draw with
  | true =>
    rw [if_pos rfl] at h
    have h1 := (bsel_some h).1
    replace h := (bsel_some h).2
    have h2 := (bsel_some h).1
    replace h := (bsel_some h).2
    exact vx_draw (mkPlan ops) hmix h1 h2 (evStages_sound hcall (Q := fun e1 st' => exactly e E' df' e1 st' df)
      (fun E1 h => by simp at h; obtain ⟨rfl, rfl, rfl⟩ := h; exact ⟨rfl, rfl, rfl⟩) (fun v E1 h => by simp at h; obtain ⟨rfl, rfl, rfl⟩ := h; exact ⟨rfl, rfl, rfl⟩) _ _ _ h)
  | false =>
    rw [if_neg (by simp)] at h
    rw [bsel_ite] at h
    split at h
    · exact vx_regionx (evOpsX_sound hrec hcall (Q := exactly e E' df') (fun E1 d h => by simp at h; obtain ⟨rfl, rfl, rfl⟩ := h; exact ⟨rfl, rfl, rfl⟩) (fun v E1 d h => by simp at h; obtain ⟨rfl, rfl, rfl⟩ := h; exact ⟨rfl, rfl, rfl⟩) _ _ _ h)
    · have h1 := (bsel_some h).1
      replace h := (bsel_some h).2
      exact vx_region h1 (evOps_sound hcall (Q := fun e1 st' => exactly e E' df' e1 st' df)
        (fun E1 h => by simp at h; obtain ⟨rfl, rfl, rfl⟩ := h; exact ⟨rfl, rfl, rfl⟩) (fun v E1 h => by simp at h; obtain ⟨rfl, rfl, rfl⟩ := h; exact ⟨rfl, rfl, rfl⟩) _ _ h)

theorem bsel_none {α : Type} {b : Bool} {t : Option α} {r : α} (h : bsel b none t = some r) : b = false ∧ t = some r := by
  cases b with
  | true => cases h
  | false => exact ⟨rfl, h⟩

theorem evNewOb_at {ρ : Type} {E : ESt} {x : EObj} {K : Nat → ESt → Option ρ} {res : ρ} (h : evNewOb E x K = some res) : ∃ o E', (∀ o', E.to.Free o' → o' = o) ∧ (E.to.setOb o x.to).bump = E'.to ∧ K o E' = some res := by
  obtain ⟨E', e', h'⟩ := evNewOb_sound h E.h.nx (fun n e => by simp [ESt.to, EH.to] at e; exact e)
  exact ⟨E.h.nx, E', fun o ho => ho E.h.nx rfl, e', h'⟩

theorem evRange_sound (hf : FuncsOk P funcs) (hrec : RecOk P rec) (hcall : CallsOk P call) {g : Operand} {ps : Array Tmp} {assign body : Code} {E : ESt} {df : List VDef} {e : VExit} {E' : ESt} {df' : List VDef} (h : evRange funcs rec call (E.to.ev g) ps assign body E df = some (e, E', df')) :
    VX P false (.rangeFunc g ps assign body) (exactly e E' df') E.to df := by
  unfold evRange at h
  split at h
  case h_2 => cases h
  rename_i k first captured hg
  split at h
  case h_2 => cases h
  rename_i fn hfn
  split at h
  case h_2 => cases h
  rename_i c hb
  have hn := (bsel_none h).1
  replace h := (bsel_none h).2
  obtain ⟨en, etm, ebx, eh⟩ := E
  simp only at h
  obtain ⟨od, E1, hod, e1, h⟩ := evNewOb_at h
  obtain ⟨ol, E2, hol, e2, h⟩ := evNewOb_at h
  refine vx_range hg (hf k fn hfn) hb hn fun od' ol' _ hfd _ hfl => ?_
  have := hod od' hfd; subst this
  simp only [EObj.to] at e1 e2
  rw [e1] at hfl ⊢
  have := hol ol' hfl; subst this
  have e2' : (E1.to.setOb ol' (.loop { n := (ESt.to ⟨en, etm, ebx, eh⟩).n, tm := (ESt.to ⟨en, etm, ebx, eh⟩).tm, params := ps, assign := assign, body := body, state := .ready, pending := none })).bump.h = E2.h.to := congrArg VSt.h e2
  rw [e2']
  split at h
  · next v h' hc =>
    refine VCalls.mono (hcall _ _ _ _ _ hc) ?_
    rintro o hh ⟨rfl, rfl⟩
    split at h
    case h_2 => cases h
    rename_i n' t' ps' a' b' s' p' hob
    have hob' : h'.to.ob ol' = some (.loop { n := n', tm := fun k => (t'.get k).getD .undef, params := ps', assign := a', body := b', state := s', pending := p' }) := by
      show (h'.ob.get ol').map EObj.to = _
      rw [hob]; rfl
    have fin : s' ≠ .busy → evSetOb (⟨en, etm, ebx, h'⟩ : ESt) ol' (.loop n' t' ps' a' b' .exhausted p') (fun E3 => match p' with
        | none => some (VExit.normal, E3, VDef.mark od' :: df)
        | some c => rec false c E3 (VDef.mark od' :: df)) = some (e, E', df') → ∃ L', h'.to.ob ol' = some (.loop L') ∧ L'.state ≠ .busy ∧ (match L'.pending with
          | none => exactly e E' df' .normal (((ESt.to ⟨en, etm, ebx, eh⟩).setH h'.to).setOb ol' (.loop { L' with state := .exhausted })) (.mark od' :: df)
          | some c => VX P false c (exactly e E' df') (((ESt.to ⟨en, etm, ebx, eh⟩).setH h'.to).setOb ol' (.loop { L' with state := .exhausted })) (.mark od' :: df)) := by
      intro hs h
      refine ⟨_, hob', hs, ?_⟩
      obtain ⟨E3, e3, h⟩ := evSetOb_sound h
      simp only [EObj.to] at e3
      have e3' : ((ESt.to ⟨en, etm, ebx, eh⟩).setH h'.to).setOb ol' (.loop { n := n', tm := fun k => (t'.get k).getD .undef, params := ps', assign := a', body := b', state := .exhausted, pending := p' }) = E3.to := e3
      cases p' with
      | none =>
        simp at h
        obtain ⟨rfl, rfl, rfl⟩ := h
        exact ⟨rfl, e3', rfl⟩
      | some c =>
        show VX P false c _ _ _
        rw [e3']
        exact hrec _ _ _ _ _ _ _ h
    split at h
    · cases h
    · next hs => exact fin (fun q => hs q) h
  · next v h' hc =>
    simp at h
    obtain ⟨rfl, rfl, rfl⟩ := h
    refine VCalls.mono (hcall _ _ _ _ _ hc) ?_
    rintro o hh ⟨rfl, rfl⟩
    exact ⟨rfl, rfl, rfl⟩
  · cases h

theorem evCode_sound (hmix : P.follows .mixedOrders = true) (hf : FuncsOk P funcs) (hcall : CallsOk P call) : ∀ fuel, RecOk P (evCode P funcs call fuel) := by
  intro fuel
  induction fuel with
  | zero => intro rd c E df e E' df' h; cases h
  | succ n ih =>
    intro rd c E df e E' df' h
    have same : ∀ {c1 : Code} {E1 : ESt} {d1 : List VDef}, evCode P funcs call n rd c1 E1 d1 = some (e, E', df') → VX P rd c1 (exactly e E' df') E1.to d1 := fun h => ih _ _ _ _ _ _ _ h
    cases c with
    | skip => cases h; exact vx_skip ⟨rfl, rfl, rfl⟩
    | label l => cases h; exact vx_label ⟨rfl, rfl, rfl⟩
    | exit i => cases h; exact vx_exit ⟨rfl, rfl, rfl⟩
    | goto l => cases h; exact vx_goto ⟨rfl, rfl, rfl⟩
    | ret => cases h; exact vx_ret ⟨rfl, rfl, rfl⟩
    | refuse w => cases h
    | region id ops draw => exact evRegion_sound hmix ih hcall h
    | loop c => exact evLoop_sound ih h
    | scope c => exact evScope_sound ih h
    | rangeFunc g ps assign body =>
      cases rd with
      | true => cases h
      | false => exact evRange_sound hf ih hcall h
    | seq a b =>
      have h : (match evCode P funcs call n rd a E df with
        | some (.normal, E', df') => evCode P funcs call n rd b E' df'
        | r => r) = some (e, E', df') := h
      refine vx_seq ?_
      split at h
      · next E2 d2 hr =>
        refine VX.mono (ih _ _ _ _ _ _ _ hr) ?_
        rintro e3 st3 d3 ⟨rfl, rfl, rfl⟩
        exact same h
      · next hne =>
        refine VX.mono (ih _ _ _ _ _ _ _ h) ?_
        rintro e3 st3 d3 ⟨rfl, rfl, rfl⟩
        cases e3 with
        | normal => exact absurd h (hne _ _)
        | _ => exact ⟨rfl, rfl, rfl⟩
    | cond c x y =>
      have h : (match E.to.ev c with
        | .bool true => evCode P funcs call n rd x E df
        | .bool false => evCode P funcs call n rd y E df
        | _ => none) = some (e, E', df') := h
      split at h
      · next hc => exact vx_cond hc (same h)
      · next hc => exact vx_cond hc (same h)
      · cases h
    | block id c =>
      have h : (match evCode P funcs call n rd c E df with
        | some (.exit j, E', df') => bsel (Nat.beq j id) (some (.normal, E', df')) (some (.exit j, E', df'))
        | r => r) = some (e, E', df') := h
      refine vx_block ?_
      split at h
      · next j E2 d2 hr =>
        refine VX.mono (ih _ _ _ _ _ _ _ hr) ?_
        rintro e3 st3 d3 ⟨rfl, rfl, rfl⟩
        rw [bsel_beq] at h
        show (if j = id then exactly e E' df' .normal _ _ else exactly e E' df' (.exit j) _ _)
        split at h
        · next hj => rw [if_pos hj]; simp at h; obtain ⟨rfl, rfl, rfl⟩ := h; exact ⟨rfl, rfl, rfl⟩
        · next hj => rw [if_neg hj]; simp at h; obtain ⟨rfl, rfl, rfl⟩ := h; exact ⟨rfl, rfl, rfl⟩
      · next hne =>
        refine VX.mono (ih _ _ _ _ _ _ _ h) ?_
        rintro e3 st3 d3 ⟨rfl, rfl, rfl⟩
        cases e3 with
        | exit j => exact absurd h (hne _ _ _)
        | _ => exact ⟨rfl, rfl, rfl⟩

end
end Go.Pv

/- The evaluator: calls, sound; closed calls. -/
namespace Go.Pv
variable {P : Program}

noncomputable def startT (l : List VVal) : Nat → T VVal → T VVal :=
  List.rec (motive := fun _ => Nat → T VVal → T VVal) (fun _ t => t) (fun v _ ih k t => t.putK v k fun t => ih (Nat.succ k) t) l

theorem startT_get : ∀ (l : List VVal) (k : Nat) (t : T VVal) (j : Nat), ((startT l k t).get j).getD .undef = if k ≤ j ∧ j < k + l.length then l.getD (j - k) .undef else (t.get j).getD .undef
  | [], k, t, j => by
    show (t.get j).getD .undef = _
    rw [if_neg (by simp)]
  | v :: l, k, t, j => by
    have h : startT (v :: l) k t = startT l (k + 1) (t.put v k) := by
      show t.putK v k (fun t => startT l (Nat.succ k) t) = _
      rw [T.putK_eq]
    rw [h, startT_get l (k + 1) (t.put v k) j, T.get_put]
    by_cases h1 : j = k
    · subst h1
      rw [if_neg (by omega), if_pos rfl, if_pos (by simp)]
      simp
    · by_cases h2 : k + 1 ≤ j ∧ j < k + 1 + l.length
      · rw [if_pos h2, if_pos (by simp; omega)]
        rw [show j - k = (j - (k + 1)) + 1 from by omega]
        simp
      · rw [if_neg h2, if_neg h1, if_neg (by simp; omega)]

theorem start_to (fn : Func) (args : List VVal) (h : EH) : (⟨fn.ntmps, startT args 0 .leaf, .leaf, h⟩ : ESt).to = VSt.start fn args h.to := by
  unfold ESt.to VSt.start
  congr 1
  funext k
  rw [startT_get]
  by_cases hk : k < args.length
  · rw [if_pos (by omega)]; simp
  · rw [if_neg (by omega)]
    simp [List.getD, List.getElem?_eq_none (Nat.le_of_not_lt hk)]
    rfl

/-- What recover and the assignment behind it look like. -/
def recShape (o0 o1 : Oper) : Option (Nat × Nat) :=
  match o0.op, o0.guard, o0.dst, o1.op, o1.guard, o1.dst with
  | .call { callee := .builtin .recover, args, .. }, none, some d0, .assign (.tmp t), none, some d1 => match args.toList with
    | [] => if t = d0 then some (d0, d1) else none
    | _ => none
  | _, _, _, _, _, _ => none

theorem recShape_spec {o0 o1 : Oper} {d0 d1 : Nat} (h : recShape o0 o1 = some (d0, d1)) : ∃ c, o0.op = .call c ∧ c.callee = .builtin .recover ∧ c.args = #[] ∧ o0.guard = none ∧ o0.dst = some d0 ∧ o1.op = .assign (.tmp d0) ∧ o1.guard = none ∧ o1.dst = some d1 := by
  unfold recShape at h
  split at h
  · next args argTypes a b t c d e f g =>
    split at h
    · next hargs =>
      split at h
      · next ht =>
        simp at h
        obtain ⟨rfl, rfl⟩ := h
        subst ht
        exact ⟨_, ‹_›, rfl, Array.toList_inj.1 (by simpa using hargs), ‹_›, ‹_›, ‹_›, ‹_›, ‹_›⟩
      · cases h
    · cases h
  · cases h

section
variable {ρ : Type} {rec : CodeF} {call : CallF} {funcs : Nat → Option Func}

noncomputable def evRecover (P : Program) (funcs : Nat → Option Func) (rec : CodeF) (k : Nat) (args : List VVal) (m : Option VVal) (h : EH) (K : EH → Option ρ) : Option ρ :=
  match funcs k with
  | some fn => match fn.body with
    | some (.seq (.region _ ops false) tail) => match ops.toList with
      | [o0, o1] => match recShape o0 o1 with
        | some (d0, d1) => bsel (fn.name == "runtime.NumGoroutine") none (bsel (Nat.ble (flen args) fn.ntmps) (bsel (Nat.ble (Nat.succ d0) fn.ntmps) (bsel (Nat.ble (Nat.succ d1) fn.ntmps)
          (match rec false tail ⟨fn.ntmps, ((startT args 0 .leaf).put (m.getD .nilIface) d0).put (m.getD .nilIface) d1, .leaf, h⟩ [] with
            | some (.normal, E', []) => match vresults P fn E'.to with
              | some _ => K E'.h
              | none => none
            | some (.ret, E', []) => match vresults P fn E'.to with
              | some _ => K E'.h
              | none => none
            | _ => none) none) none) none)
        | none => none
      | _ => none
    | _ => none
  | none => none

theorem evRecover_sound (hf : FuncsOk P funcs) (hrec : RecOk P rec) {k : Nat} {args : List VVal} {m : Option VVal} {h : EH} {K : EH → Option ρ} {res : ρ} (he : evRecover P funcs rec k args m h K = some res) {next : VHeap → Prop} (hk : ∀ h', K h' = some res → next h'.to) :
    VRecover P k args m h.to next := by
  unfold evRecover at he
  split at he
  case h_2 => cases he
  rename_i fn hfn
  split at he
  case h_2 => cases he
  rename_i id ops tail hb
  split at he
  case h_2 => cases he
  rename_i o0 o1 hops
  split at he
  case h_2 => cases he
  rename_i d0 d1 hsh
  have hn := (bsel_none he).1
  replace he := (bsel_none he).2
  have c1 := Nat.le_of_ble_eq_true (bsel_some he).1
  replace he := (bsel_some he).2
  have c2 := Nat.le_of_ble_eq_true (bsel_some he).1
  replace he := (bsel_some he).2
  have c3 := Nat.le_of_ble_eq_true (bsel_some he).1
  replace he := (bsel_some he).2
  rw [flen_eq] at c1
  obtain ⟨c, s1, s2, s3, s4, s5, s6, s7, s8⟩ := recShape_spec hsh
  have hopsa : ops = #[o0, o1] := Array.toList_inj.1 (by simpa using hops)
  subst hopsa
  refine ⟨fn, id, o0, o1, c, tail, d0, d1, hf k fn hfn, hn, hb, c1, s1, s2, s3, s4, s5, s6, s7, s8, c2, c3, ?_⟩
  rw [← start_to, to_put, to_put]
  split at he
  · next E' hr =>
    split at he
    · next v hv =>
      refine VX.mono (hrec _ _ _ _ _ _ _ hr) ?_
      rintro e1 st1 d1 ⟨rfl, rfl, rfl⟩
      exact ⟨trivial, rfl, ⟨v, hv⟩, hk _ he⟩
    · cases he
  · next E' hr =>
    split at he
    · next v hv =>
      refine VX.mono (hrec _ _ _ _ _ _ _ hr) ?_
      rintro e1 st1 d1 ⟨rfl, rfl, rfl⟩
      exact ⟨trivial, rfl, ⟨v, hv⟩, hk _ he⟩
    · cases he
  · cases he

noncomputable def evLeaves (P : Program) (funcs : Nat → Option Func) (rec : CodeF) (fn : Func) (ds : List VDef) : Option VVal → ESt → Option (VOut × EH) :=
  List.rec (motive := fun _ => Option VVal → ESt → Option (VOut × EH))
    (fun m E => match m with
      | none => match vresults P fn E.to with
        | some v => forceV v fun v => match E with | ⟨_, _, _, h⟩ => some (.ret v, h)
        | none => none
      | some v => match E with | ⟨_, _, _, h⟩ => some (.panic v, h))
    (fun d _ ih m E => match d with
      | .mark o => match E.h.ob.get o with
        | some (.v (.raw (.deferred (some [])))) => evSetOb E o (.v (.raw (.deferred none))) fun E' => ih m E'
        | _ => none
      | .call k args => match E with | ⟨n, tm, bx, h⟩ => evRecover P funcs rec k args m h fun h' => ih none ⟨n, tm, bx, h'⟩) ds

theorem evLeaves_sound (hf : FuncsOk P funcs) (hrec : RecOk P rec) {fn : Func} {out : VOut} {h' : EH} : ∀ (ds : List VDef) (m : Option VVal) (E : ESt), evLeaves P funcs rec fn ds m E = some (out, h') → VLeaves P fn (fun o hh => o = out ∧ hh = h'.to) ds m E.to
  | [], none, E, h => by
    have h : (match vresults P fn E.to with
        | some v => forceV v fun v => match E with | ⟨_, _, _, h⟩ => some (VOut.ret v, h)
        | none => none) = some (out, h') := h
    split at h
    · next v hv =>
      rw [forceV_eq] at h
      simp at h
      obtain ⟨rfl, rfl⟩ := h
      exact ⟨v, hv, rfl, rfl⟩
    · cases h
  | [], some v, E, h => by
    have h : (match E with | ⟨_, _, _, h⟩ => some (VOut.panic v, h)) = some (out, h') := h
    simp at h
    obtain ⟨rfl, rfl⟩ := h
    exact ⟨rfl, rfl⟩
  | .mark o :: ds, m, E, h => by
    have h : (match E.h.ob.get o with
        | some (.v (.raw (.deferred (some [])))) => evSetOb E o (.v (.raw (.deferred none))) fun E' => evLeaves P funcs rec fn ds m E'
        | _ => none) = some (out, h') := h
    split at h
    · next ho =>
      obtain ⟨E', e', h⟩ := evSetOb_sound h
      refine ⟨obto ho, ?_⟩
      simp only [EObj.to] at e'
      rw [e']
      exact evLeaves_sound hf hrec ds m E' h
    · cases h
  | .call k args :: ds, m, E, h => by
    obtain ⟨n, tm, bx, hh⟩ := E
    have h : evRecover P funcs rec k args m hh (fun h' => evLeaves P funcs rec fn ds none ⟨n, tm, bx, h'⟩) = some (out, h') := h
    exact evRecover_sound hf hrec h fun h2 hq => evLeaves_sound hf hrec ds none ⟨n, tm, bx, h2⟩ hq

noncomputable def evBody (P : Program) (funcs : Nat → Option Func) (rec : CodeF) (fn : Func) (c : Code) (args : List VVal) (h : EH) : Option (VOut × EH) :=
  bsel (fn.name == "runtime.NumGoroutine") none (bsel (Nat.ble (flen args) fn.ntmps) (match rec false c ⟨fn.ntmps, startT args 0 .leaf, .leaf, h⟩ [] with
    | some (.normal, E, df) => evLeaves P funcs rec fn df none E
    | some (.ret, E, df) => evLeaves P funcs rec fn df none E
    | some (.panic v, E, df) => evLeaves P funcs rec fn df (some v) E
    | _ => none) none)

theorem evBody_sound (hf : FuncsOk P funcs) (hrec : RecOk P rec) {f : FuncId} {fn : Func} {c : Code} (hfn : funcs f = some fn) (hb : fn.body = some c) {args : List VVal} {h : EH} {out : VOut} {h' : EH} (he : evBody P funcs rec fn c args h = some (out, h')) :
    VCalls P f args h.to (fun o hh => o = out ∧ hh = h'.to) := by
  unfold evBody at he
  have hn := (bsel_none he).1
  replace he := (bsel_none he).2
  have c1 := Nat.le_of_ble_eq_true (bsel_some he).1
  replace he := (bsel_some he).2
  rw [flen_eq] at c1
  refine vcallsx_of (hf f fn hfn) hb hn c1 ?_
  rw [← start_to]
  split at he
  · next E df hr =>
    refine VX.mono (hrec _ _ _ _ _ _ _ hr) ?_
    rintro e1 st1 d1 ⟨rfl, rfl, rfl⟩
    exact evLeaves_sound hf hrec _ _ _ he
  · next E df hr =>
    refine VX.mono (hrec _ _ _ _ _ _ _ hr) ?_
    rintro e1 st1 d1 ⟨rfl, rfl, rfl⟩
    exact evLeaves_sound hf hrec _ _ _ he
  · next v E df hr =>
    refine VX.mono (hrec _ _ _ _ _ _ _ hr) ?_
    rintro e1 st1 d1 ⟨rfl, rfl, rfl⟩
    exact evLeaves_sound hf hrec _ _ _ he
  · cases he

/-- What stands for functions without a Go body, and for those whose contract is known. -/
abbrev Hooks := FuncId → List VVal → EH → Option (Option (VOut × EH))

noncomputable def evCall (P : Program) (funcs : Nat → Option Func) (hook : Hooks) (fuel : Nat) (depth : Nat) : CallF :=
  Nat.rec (motive := fun _ => CallF) (fun _ _ _ => none) (fun _ call f args h => match hook f args h with
    | some r => r
    | none => match funcs f with
      | some fn => match fn.body with
        | some c => evBody P funcs (evCode P funcs call fuel) fn c args h
        | none => none
      | none => none) depth

def HooksOk (P : Program) (hook : Hooks) : Prop := ∀ f args h r h', hook f args h = some (some (r, h')) → VCalls P f args h.to (fun o hh => o = r ∧ hh = h'.to)

theorem evCall_sound (hmix : P.follows .mixedOrders = true) (hf : FuncsOk P funcs) {hook : Hooks} (hh : HooksOk P hook) {fuel : Nat} : ∀ depth, CallsOk P (evCall P funcs hook fuel depth) := by
  intro depth
  induction depth with
  | zero => intro k args h out h' e; cases e
  | succ n ih =>
    intro k args h out h' e
    have e : (match hook k args h with
      | some r => r
      | none => match funcs k with
        | some fn => match fn.body with
          | some c => evBody P funcs (evCode P funcs (evCall P funcs hook fuel n) fuel) fn c args h
          | none => none
        | none => none) = some (out, h') := e
    split at e
    · next r hr => exact hh _ _ _ _ _ (by rw [hr, e])
    · split at e
      · next fn hfn =>
        split at e
        · next c hb => exact evBody_sound hf (evCode_sound hmix hf ih fuel) hfn hb e
        · cases e
      · cases e

end
end Go.Pv

/- Functions that have no body in Go: their contracts. -/
namespace Go.Pv
variable {P : Program}

/-- A function without a body, by its row. -/
structure RowIs (P : Program) (k : FuncId) (e : Array Value → Sem Value) : Prop where
  ok : ∃ fn, P.funcs[k]? = some fn ∧ (fn.name == "runtime.NumGoroutine") = false ∧ fn.body.isNone = true ∧ (Extern.findNext fn).isNone = true ∧ Extern.find fn = some e

theorem RowIs.run {k : FuncId} {e : Array Value → Sem Value} (h : RowIs P k e) (args : Array Value) (w : World) : (callFunc k args).run P w = ((e args).run P w).andThen fun v w' => .ok (.value v) w' := by
  obtain ⟨fn, h1, h2, h3, h4, h5⟩ := h.ok
  have h4' : Extern.findNext fn = none := by simpa using h4
  exact run_callFunc_extern h1 h2 h3 h4' h5 args w

theorem two_args {G : Ghost} {x y : VVal} {r : Array Value} (h : VRels G [x, y] r.toList) : ∃ a b, r = #[a, b] ∧ VRel G x a ∧ VRel G y b := by
  simp only [VRels] at h
  obtain ⟨a, l, h1, h2, b, l2, h3, h4, h5⟩ := h
  subst h3 h5
  exact ⟨a, b, Array.toList_inj.1 (by simpa using h1), h2, h4⟩

theorem one_arg {G : Ghost} {x : VVal} {r : Array Value} (h : VRels G [x] r.toList) : ∃ a, r = #[a] ∧ VRel G x a := by
  simp only [VRels] at h
  obtain ⟨a, l, h1, h2, h5⟩ := h
  subst h5
  exact ⟨a, Array.toList_inj.1 (by simpa using h1), h2⟩

theorem hook_same {k : FuncId} (h : RowIs P k Extern.AbiNoEscape.same) (v : VVal) (hh : EH) : VCalls P k [v] hh.to (fun o h' => o = .ret v ∧ h' = hh.to) := by
  intro G w rargs hm hr
  obtain ⟨a, rfl, hv⟩ := one_arg hr
  refine .inr ⟨a, w, by rw [h.run]; rfl, G, _, _, ⟨rfl, rfl⟩, hv, hm, Trans.refl _ _ _⟩

noncomputable def fidx (c : UInt8) (s : List UInt8) : Nat → Int :=
  List.rec (motive := fun _ => Nat → Int) (fun _ => -1) (fun x _ ih n => bsel (Nat.beq x.toNat c.toNat) (n : Int) (ih (Nat.succ n))) s

theorem fidx_find (c : UInt8) : ∀ (s : List UInt8) (n : Nat) (pre : List UInt8), pre.length = n → fidx c s n = match (List.range' n s.length).find? (fun i => (pre ++ s)[i]! == c) with | some i => (i : Int) | none => -1
  | [], n, pre, _ => rfl
  | x :: xs, n, pre, hn => by
    show bsel (Nat.beq x.toNat c.toNat) (n : Int) (fidx c xs (n + 1)) = _
    have h0 : (pre ++ x :: xs)[n]! = x := by
      rw [List.getElem!_eq_getElem?_getD, List.getElem?_append_right (by omega)]
      simp [hn]
    rw [List.length_cons, List.range'_succ, List.find?_cons, h0]
    by_cases h : x = c
    · subst h
      have : Nat.beq x.toNat x.toNat = true := by simp
      rw [this, bsel_true]
      simp
    · have hb : Nat.beq x.toNat c.toNat = false := by
        cases hb : Nat.beq x.toNat c.toNat with
        | false => rfl
        | true => exact absurd (UInt8.toNat_inj.1 (Nat.eq_of_beq_eq_true hb)) h
      have : (x == c) = false := by simpa using h
      rw [hb, bsel_false, this, fidx_find c xs (n + 1) (pre ++ [x]) (by simp [hn])]
      simp

theorem hook_index {k : FuncId} (h : RowIs P k Extern.BytealgIndexByte.indexByte) (s : List UInt8) (b : Int) (hh : EH) :
    VCalls P k [.str s, .int .u8 b] hh.to (fun o h' => o = .ret (.int .i64 (fidx (UInt8.ofNat b.toNat) s 0)) ∧ h' = hh.to) := by
  intro G w rargs hm hr
  obtain ⟨x, y, rfl, hx, hy⟩ := two_args hr
  simp only [VRel] at hx hy
  subst hx hy
  refine .inr ⟨.int .i64 (fidx (UInt8.ofNat b.toNat) s 0), w, ?_, G, _, _, ⟨rfl, rfl⟩, by simp [EndRel, VRel], hm, Trans.refl _ _ _⟩
  rw [h.run]
  have he : (Extern.BytealgIndexByte.indexByte #[.string ⟨s.toArray⟩, .int .u8 b]).run P w = .ok (.int .i64 (fidx (UInt8.ofNat b.toNat) s 0)) w := by
    rw [fidx_find (UInt8.ofNat b.toNat) s 0 [] rfl]
    have hr : ∀ i, (⟨s.toArray⟩ : ByteArray)[i]! = s[i]! := fun i => by
      rw [List.getElem!_eq_getElem?_getD]
      by_cases hi : i < s.length
      · rw [getElem!_pos (⟨s.toArray⟩ : ByteArray) i hi, List.getElem?_eq_getElem hi]
        rfl
      · rw [getElem!_neg (⟨s.toArray⟩ : ByteArray) i hi, List.getElem?_eq_none (by omega)]
        rfl
    show (((match (List.range s.length).find? fun i => (⟨s.toArray⟩ : ByteArray)[i]! == b.toNat.toUInt8 with | some i => pure (goInt i) | none => pure (goInt (-1)) : Sem Value)).run P w) = _
    simp only [hr, List.nil_append, List.range_eq_range']
    cases (List.range' 0 s.length).find? (fun i => s[i]! == UInt8.ofNat b.toNat) with
    | none => rfl
    | some i => rfl
  rw [he]; rfl

noncomputable def cloneH (h : EH) (t : TypeId) (es : List VEnt) (clock : Nat) : VOut × EH :=
  match h with
  | ⟨ob, fm, gr, ty, nx⟩ => (.ret (.iface t (.map (some nx))), ⟨ob.put (.v (.map es clock)) nx, fm, gr, ty, Nat.succ nx⟩)

theorem hook_clone {k : FuncId} (h : RowIs P k Extern.MapsClone.clone) (t : TypeId) (o : Nat) (es : List VEnt) (clock : Nat) (hh : EH) (ho : hh.ob.get o = some (.v (.map es clock))) :
    VCalls P k [.iface t (.map (some o))] hh.to (fun r h' => r = (cloneH hh t es clock).1 ∧ h' = (cloneH hh t es clock).2.to) := by
  intro G w rargs hm hr
  obtain ⟨ob, fm, gr, ty, nx⟩ := hh
  obtain ⟨x, rfl, hx⟩ := one_arg hr
  simp only [VRel] at hx
  obtain ⟨y, rfl, b, hk, rfl⟩ := hx
  have ho' : (EH.to ⟨ob, fm, gr, ty, nx⟩).mem.ob o = some (.map es clock) := by
    show (ob.get o).map EObj.to = _
    rw [show ob.get o = _ from ho]; rfl
  obtain ⟨b', res, hk', hw, hrel⟩ := hm.ob o _ ho'
  have := hm.obI b b' o hk hk'; subst this
  have hg : (getObj b).run P w = .ok (.map res clock) w := by simp [getObj, Sem.run, hw]
  obtain ⟨m1, t1⟩ := hm.pushObj (.map es clock) (.map res clock) (fun G' he hk2 => ⟨w.heap.size, res, hk2, heap_push_new w _, hrel.mono he⟩)
  have hbd : G.bound = nx := hm.bd nx rfl
  subst hbd
  have e : (cloneH ⟨ob, fm, gr, ty, G.bound⟩ t es clock).2.to.mem = { (EH.to ⟨ob, fm, gr, ty, G.bound⟩).mem with ob := upd (EH.to ⟨ob, fm, gr, ty, G.bound⟩).mem.ob G.bound (some (.map es clock)), bd := (EH.to ⟨ob, fm, gr, ty, G.bound⟩).mem.bd.map (· + 1) } := by
    unfold cloneH EH.to VHeap.mem
    simp only [ob_put, Option.map_some]
    rfl
  refine .inr ⟨.iface t (.map (some w.heap.size)), w.alloc (.map res clock), ?_, G.put w.heap.size (.obj G.bound) (G.bound + 1), (cloneH ⟨ob, fm, gr, ty, G.bound⟩ t es clock).2.to, (cloneH ⟨ob, fm, gr, ty, G.bound⟩ t es clock).1, ⟨rfl, rfl⟩, ?_, by rw [e]; exact m1, by rw [e]; exact t1⟩
  · rw [h.run]
    have he : (Extern.MapsClone.clone #[.iface t (.map (some b))]).run P w = .ok (.iface t (.map (some w.heap.size))) (w.alloc (.map res clock)) := by
      show (do
        let x ← getObj b
        match x with
        | .map entries clock => do pure (.iface t (.map (some (← newObj (.map entries clock)))))
        | _ => stuck "maps.clone: a map expected" : Sem Value).run P w = _
      simp [hg]
    rw [he]; rfl
  · simp only [cloneH, EndRel, VRel]
    exact ⟨_, rfl, w.heap.size, put_kind_same, rfl⟩

/-- The functions without a body that are reached. -/
noncomputable def stdHook (kb kn kc : FuncId) : Hooks := fun f args h =>
  bsel (Nat.beq f kb) (match args with
    | [.str s, .int .u8 b] => some (some (.ret (.int .i64 (fidx (UInt8.ofNat b.toNat) s 0)), h))
    | _ => some none)
  (bsel (Nat.beq f kn) (match args with
    | [v] => some (some (.ret v, h))
    | _ => some none)
  (bsel (Nat.beq f kc) (match args with
    | [.iface t (.map (some o))] => match h.ob.get o with
      | some (.v (.map es clock)) => some (some (cloneH h t es clock))
      | _ => some none
    | _ => some none) none))

theorem stdHook_ok {kb kn kc : FuncId} (h1 : RowIs P kb Extern.BytealgIndexByte.indexByte) (h2 : RowIs P kn Extern.AbiNoEscape.same) (h3 : RowIs P kc Extern.MapsClone.clone) : HooksOk P (stdHook kb kn kc) := by
  intro f args h r h' e
  unfold stdHook at e
  simp only [bsel_beq] at e
  split at e
  · next hf =>
    subst hf
    split at e
    · next s b =>
      simp at e; obtain ⟨rfl, rfl⟩ := e
      exact hook_index h1 s b h
    · cases e
  · split at e
    · next hf =>
      subst hf
      split at e
      · next v =>
        simp at e; obtain ⟨rfl, rfl⟩ := e
        exact hook_same h2 v h
      · cases e
    · split at e
      · next hf =>
        subst hf
        split at e
        · next t o =>
          split at e
          · next es clock ho =>
            simp only [Option.some.injEq] at e
            have := hook_clone h3 t o es clock h ho
            rw [e] at this
            exact this
          · cases e
        · cases e
      · cases e

end Go.Pv

/- The functions of a program in a trie. -/
namespace Go.Pv
noncomputable def ofL {α : Type} (l : List α) : Nat → T α → T α :=
  List.rec (motive := fun _ => Nat → T α → T α) (fun _ t => t) (fun v _ ih k t => t.putK v k fun t => ih (Nat.succ k) t) l

theorem ofL_get {α : Type} : ∀ (l : List α) (k : Nat) (t : T α) (j : Nat) (v : α), (ofL l k t).get j = some v → (k ≤ j ∧ l[j - k]? = some v) ∨ t.get j = some v
  | [], k, t, j, v, h => .inr h
  | x :: l, k, t, j, v, h => by
    have e : ofL (x :: l) k t = ofL l (k + 1) (t.put x k) := by
      show t.putK x k (fun t => ofL l (Nat.succ k) t) = _
      rw [T.putK_eq]
    rw [e] at h
    rcases ofL_get l (k + 1) _ j v h with ⟨h1, h2⟩ | h
    · left
      refine ⟨by omega, ?_⟩
      rw [show j - k = (j - (k + 1)) + 1 from by omega]
      simpa using h2
    · rw [T.get_put] at h
      by_cases q : j = k
      · rw [if_pos q] at h
        cases h
        subst q
        exact .inl ⟨Nat.le_refl _, by simp⟩
      · rw [if_neg q] at h
        exact .inr h

/-- The functions of a program, in a trie. -/
noncomputable def ftab (P : Program) : T Func := ofL P.funcs.toList 0 .leaf
noncomputable def fget' (t : T Func) (k : Nat) : Option Func := t.get k

theorem ftab_ok (P : Program) : FuncsOk P (ftab P).get := by
  intro k fn h
  rcases ofL_get P.funcs.toList 0 .leaf k fn h with ⟨_, h⟩ | h
  · simpa using h
  · cases h

def EH0 : EH := ⟨.leaf, .leaf, .leaf, .leaf, 0⟩

def retBool : Option (VOut × EH) → Option Bool
  | some (.ret (.bool b), _) => some b
  | _ => none
end Go.Pv
namespace Go.Pv
def fnAt (P : Program) (k : Nat) : Func := (P.funcs[k]?).getD default

theorem rowIs_of {P : Program} {k : Nat} {e : Array Value → Sem Value} (h1 : (P.funcs[k]?).isSome = true) (h2 : ((fnAt P k).name == "runtime.NumGoroutine") = false) (h3 : (fnAt P k).body.isNone = true)
    (h4 : (Extern.findNext (fnAt P k)).isNone = true) (h5 : Extern.find (fnAt P k) = some e) : RowIs P k e := by
  obtain ⟨fn, hf⟩ := Option.isSome_iff_exists.1 h1
  have : fnAt P k = fn := by unfold fnAt; rw [hf]; rfl
  rw [this] at h2 h3 h4 h5
  exact ⟨fn, hf, h2, h3, h4, h5⟩
end Go.Pv
