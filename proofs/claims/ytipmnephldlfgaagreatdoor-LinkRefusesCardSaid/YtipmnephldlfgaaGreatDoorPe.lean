/-
  The evaluator at the kernel's pace, calls of plain values, laws without arguments. No condition.
-/
import Derived.Test.YtipmnephldlfgaaGreatDoorPd
import GoSem.ClaimChange

/- The evaluator again, at the kernel's pace: each operation's way is a text of its own. -/
namespace Go.Pv
variable {P : Program}

noncomputable def kopt (v : Option VVal) : VVal := Option.rec (motive := fun _ => VVal) VVal.undef (fun v => v) v
noncomputable def kget (t : T VVal) : Nat → VVal :=
  T.rec (motive := fun _ => Nat → VVal) (fun _ => VVal.undef) (fun v _ _ gl gr k => bsel (Nat.beq k 0) (kopt v) (bsel (Nat.beq (Nat.mod k 2) 0) (gl (Nat.div k 2)) (gr (Nat.div k 2)))) t

theorem kget_eq (t : T VVal) : ∀ k, kget t k = (t.get k).getD .undef := by
  induction t with
  | leaf => intro k; rfl
  | node v l r ihl ihr =>
    intro k
    show bsel (Nat.beq k 0) (kopt v) (bsel (Nat.beq (Nat.mod k 2) 0) (kget l (Nat.div k 2)) (kget r (Nat.div k 2))) = _
    rw [T.get_node, bsel_zero, bsel_even, ihl, ihr]
    have : kopt v = v.getD .undef := by cases v <;> rfl
    rw [this]
    split
    · rfl
    · split <;> rfl

noncomputable def kev (x : Operand) : T VVal → VVal :=
  Operand.casesOn (motive := fun _ => T VVal → VVal) x (fun t tm => kget tm t) (fun v _ => ofConst v) (fun _ _ => .undef) (fun f _ => .func (.func f) [] [])

theorem kev_eq (E : ESt) (x : Operand) : kev x E.tm = E.to.ev x := by
  cases x with
  | tmp t => exact kget_eq _ _
  | const v => rfl
  | global g => rfl
  | func f => rfl

noncomputable def kevs (l : List Operand) : T VVal → List VVal :=
  List.rec (motive := fun _ => T VVal → List VVal) (fun _ => []) (fun x _ ih tm => kev x tm :: ih tm) l

theorem kevs_eq (E : ESt) (l : List Operand) : kevs l E.tm = E.to.evs l := by
  induction l with
  | nil => rfl
  | cons x l ih => show kev x E.tm :: kevs l E.tm = _; rw [kev_eq, ih]; rfl

noncomputable def kparts (l : List (Nat × Operand)) : T VVal → List (Nat × VVal) :=
  List.rec (motive := fun _ => T VVal → List (Nat × VVal)) (fun _ => []) (fun x _ ih tm => (x.1, kev x.2 tm) :: ih tm) l

theorem kparts_eq (E : ESt) (l : List (Nat × Operand)) : kparts l E.tm = E.to.parts l := by
  induction l with
  | nil => rfl
  | cons x l ih => obtain ⟨i, x⟩ := x; show (i, kev x E.tm) :: kparts l E.tm = _; rw [kev_eq, ih]; rfl

/-! ### Forcing -/
section
variable {ρ : Type}

noncomputable def kForce {R : Type} (v : VVal) : (VVal → R) → R :=
  VVal.casesOn (motive_1 := fun _ => (VVal → R) → R) v (fun K => K .undef) (fun b K => forceBool b fun b => K (.bool b)) (fun k n K => forceInt n fun n => K (.int k n)) (fun s K => K (.str s)) (fun K => K .nilp)
    (fun o off K => forceNat off fun off => K (.ptr o off)) (fun s v off K => forceNat off fun off => K (.lptr s v off)) (fun cs K => K (.iptr cs))
    (fun cs len cap K => forceList cs fun cs => forceNat len fun len => K (.slice cs len cap)) (fun a b c d K => K (.mslice a b c d)) (fun o K => K (.map o)) (fun f a b K => K (.func f a b)) (fun K => K .nilFunc)
    (fun t v K => K (.iface t v)) (fun K => K .nilIface) (fun cs K => forceList cs fun cs => K (.agg cs)) (fun cs K => forceList cs fun cs => K (.tuple cs)) (fun o K => K (.yieldv o)) (fun a b c K => K (.rslice a b c))
    (fun a b c d K => K (.gptr a b c d)) (fun a b K => K (.fptr a b))

theorem kForce_eq {R : Type} (v : VVal) (K : VVal → R) : kForce v K = K v := by
  cases v <;> simp only [kForce, forceInt_eq, forceBool_eq, forceList_eq, forceNat_eq]

noncomputable def kPutS (d : Nat) (v : VVal) (E : ESt) (K : ESt → Option ρ) : Option ρ :=
  bsel (Nat.ble (Nat.succ d) E.n) (kForce v fun v => E.tm.putK v d fun tm => K ⟨E.n, tm, E.bx, E.h⟩) none
noncomputable def kPut (dst : Option Nat) : VVal → ESt → (ESt → Option ρ) → Option ρ :=
  Option.casesOn (motive := fun _ => VVal → ESt → (ESt → Option ρ) → Option ρ) dst (fun _ E K => K E) (fun d v E K => kPutS d v E K)

theorem kPut_eq (dst : Option Nat) (v : VVal) (E : ESt) (K : ESt → Option ρ) : kPut dst v E K = evPut E dst v K := by
  cases dst with
  | none => rfl
  | some d =>
    obtain ⟨n, tm, bx, h⟩ := E
    show bsel (Nat.ble (Nat.succ d) n) (kForce v fun v => tm.putK v d fun tm => K ⟨n, tm, bx, h⟩) none = _
    rw [kForce_eq]
    simp only [evPut, forceV_eq]

noncomputable def kLight (r : Option VVal) : Option Nat → ESt → (ESt → Option ρ) → Option ρ :=
  Option.casesOn (motive := fun _ => Option Nat → ESt → (ESt → Option ρ) → Option ρ) r (fun _ _ _ => none) (fun v dst E K => kPut dst v E K)

/-! ### Operations that turn no memory -/

noncomputable def kObCells (x : Option EObj) : Nat → Option (List VVal × Nat) :=
  match x with
  | some (.v (.cells vs)) => fun off => some (vs, off)
  | _ => fun _ => none

noncomputable def kCells (v : VVal) (E : ESt) : Option (List VVal × Nat) :=
  match v with
  | .ptr o off => kObCells (E.h.ob.get o) off
  | .iptr vs => some (vs, 0)
  | v => E.to.cellsAt v

theorem kCells_eq (v : VVal) (E : ESt) : kCells v E = E.to.cellsAt v := by
  cases v <;> try rfl
  case ptr o off =>
    simp only [kCells, VSt.cellsAt]
    show kObCells (E.h.ob.get o) off = (match (E.h.ob.get o).map EObj.to with | some (.cells vs) => some (vs, off) | _ => none)
    cases E.h.ob.get o with
    | none => rfl
    | some x =>
      cases x with
      | v x => cases x <;> rfl
      | loop => rfl

noncomputable def kLoad2 (i : TInfo) (c : List VVal × Nat) : Option VVal := fpart i.agg i.size c.1 c.2
noncomputable def kLoad (t : TypeId) (a : Operand) (P : Program) (E : ESt) : Option VVal :=
  Option.casesOn (motive := fun _ => Option VVal) (layoutOf P t) none (fun i => Option.casesOn (motive := fun _ => Option VVal) (kCells (kev a E.tm) E) none (fun c => kLoad2 i c))

theorem kLoad_eq (t : TypeId) (a : Operand) (E : ESt) : kLoad t a P E = E.to.flight (layoutOf P) (.load t a) := by
  unfold kLoad VSt.flight
  rw [kev_eq, kCells_eq]
  simp only
  cases layoutOf P t with
  | none => cases E.to.cellsAt (E.to.ev a) <;> rfl
  | some i => cases E.to.cellsAt (E.to.ev a) <;> rfl

/-! Integers. -/
noncomputable def ieq (a : Int) : Int → Bool :=
  Int.casesOn (motive := fun _ => Int → Bool) a (fun m b => Int.casesOn (motive := fun _ => Bool) b (fun n => Nat.beq m n) (fun _ => false)) (fun m b => Int.casesOn (motive := fun _ => Bool) b (fun _ => false) (fun n => Nat.beq m n))
noncomputable def ilt (a : Int) : Int → Bool :=
  Int.casesOn (motive := fun _ => Int → Bool) a (fun m b => Int.casesOn (motive := fun _ => Bool) b (fun n => Nat.ble (Nat.succ m) n) (fun _ => false)) (fun m b => Int.casesOn (motive := fun _ => Bool) b (fun _ => true) (fun n => Nat.ble (Nat.succ n) m))

theorem ieq_eq (a b : Int) : ieq a b = (a == b) := by
  cases a with
  | ofNat m =>
    cases b with
    | ofNat n =>
      show Nat.beq m n = _
      by_cases h : m = n
      · subst h; simp
      · have h1 : Nat.beq m n = false := by
          cases hb : Nat.beq m n with
          | false => rfl
          | true => exact absurd (Nat.eq_of_beq_eq_true hb) h
        rw [h1]; symm; rw [beq_eq_false_iff_ne]; intro e; cases e; exact h rfl
    | negSucc n => show false = _; symm; rw [beq_eq_false_iff_ne]; intro e; cases e
  | negSucc m =>
    cases b with
    | ofNat n => show false = _; symm; rw [beq_eq_false_iff_ne]; intro e; cases e
    | negSucc n =>
      show Nat.beq m n = _
      by_cases h : m = n
      · subst h; simp
      · have h1 : Nat.beq m n = false := by
          cases hb : Nat.beq m n with
          | false => rfl
          | true => exact absurd (Nat.eq_of_beq_eq_true hb) h
        rw [h1]; symm; rw [beq_eq_false_iff_ne]; intro e; cases e; exact h rfl

theorem ilt_eq (a b : Int) : ilt a b = decide (a < b) := by
  cases a with
  | ofNat m =>
    cases b with
    | ofNat n =>
      show Nat.ble (m + 1) n = _
      rw [Bool.eq_iff_iff, Nat.ble_eq]
      simp
      omega
    | negSucc n =>
      show false = _
      symm; rw [decide_eq_false_iff_not]; intro h
      have := Int.negSucc_lt_zero n
      simp at h; omega
  | negSucc m =>
    cases b with
    | ofNat n =>
      show true = _
      symm; rw [decide_eq_true_iff]
      have := Int.negSucc_lt_zero m
      simp; omega
    | negSucc n =>
      show Nat.ble (n + 1) m = _
      rw [Bool.eq_iff_iff, Nat.ble_eq, decide_eq_true_iff]
      constructor
      · intro h; simp only [Int.negSucc_eq]; omega
      · intro h; simp only [Int.negSucc_eq] at h; omega

noncomputable def kindNat (k : IntKind) : Nat := IntKind.casesOn (motive := fun _ => Nat) k 0 1 2 3 4 5 6 7
theorem kindNat_eq (a b : IntKind) : Nat.beq (kindNat a) (kindNat b) = decide (a = b) := by cases a <;> cases b <;> rfl

/-- The wrap of what fits is itself. -/
noncomputable def kwrap (k : IntKind) (n : Int) : Int :=
  Int.casesOn (motive := fun _ => Int) n (fun m => bsel (Nat.beq (kindNat k) 3) (bsel (Nat.ble m 9223372036854775807) (.ofNat m) (k.wrap (.ofNat m))) (k.wrap (.ofNat m))) (fun m => k.wrap (.negSucc m))
theorem kwrap_eq (k : IntKind) (n : Int) : kwrap k n = k.wrap n := by
  cases n with
  | negSucc m => rfl
  | ofNat m =>
    show bsel (Nat.beq (kindNat k) 3) (bsel (Nat.ble m 9223372036854775807) (.ofNat m) (k.wrap (.ofNat m))) (k.wrap (.ofNat m)) = _
    rw [bsel_ite]
    split
    · next h =>
      have hk : k = .i64 := by cases k <;> first | rfl | (exact absurd h (by decide))
      subst hk
      rw [bsel_ble]
      split
      · next h2 =>
        unfold IntKind.wrap
        simp [IntKind.bits, IntKind.signed]
        omega
      · rfl
    · rfl

noncomputable def kInt (op : BinOp) : IntKind → Int → Int → Option VVal :=
  BinOp.casesOn (motive := fun _ => IntKind → Int → Int → Option VVal) op (fun k a b => some (.int k (kwrap k (a + b)))) (fun k a b => some (.int k (kwrap k (a - b)))) (fun k a b => vbinInt .mul k a b) (fun k a b => vbinInt .quo k a b) (fun k a b => vbinInt .rem k a b)
    (fun k a b => vbinInt .and k a b) (fun k a b => vbinInt .or k a b) (fun k a b => vbinInt .xor k a b) (fun k a b => vbinInt .shl k a b) (fun k a b => vbinInt .shr k a b) (fun k a b => vbinInt .andNot k a b)
    (fun _ a b => some (.bool (ieq a b))) (fun _ a b => some (.bool (bsel (ieq a b) false true))) (fun _ a b => some (.bool (ilt a b))) (fun _ a b => some (.bool (bsel (ilt b a) false true))) (fun _ a b => some (.bool (ilt b a))) (fun _ a b => some (.bool (bsel (ilt a b) false true)))

theorem kInt_eq (op : BinOp) (k : IntKind) (a b : Int) : kInt op k a b = vbinInt op k a b := by
  cases op <;> simp only [kInt, vbinInt, kwrap_eq, ieq_eq, ilt_eq]
  · congr 2; cases h : a == b <;> simp [bsel_ite, bne, h]
  · congr 2; rw [bsel_ite]; by_cases h : b < a <;> simp [h] <;> omega
  · congr 2; rw [bsel_ite]; by_cases h : a < b <;> simp [h] <;> omega

noncomputable def kStr (op : BinOp) : List UInt8 → List UInt8 → Option VVal :=
  BinOp.casesOn (motive := fun _ => List UInt8 → List UInt8 → Option VVal) op (fun a b => vbinStr .add a b) (fun a b => vbinStr .sub a b) (fun a b => vbinStr .mul a b) (fun a b => vbinStr .quo a b) (fun a b => vbinStr .rem a b)
    (fun a b => vbinStr .and a b) (fun a b => vbinStr .or a b) (fun a b => vbinStr .xor a b) (fun a b => vbinStr .shl a b) (fun a b => vbinStr .shr a b) (fun a b => vbinStr .andNot a b)
    (fun a b => some (.bool (fstrEq a b))) (fun a b => some (.bool (bsel (fstrEq a b) false true))) (fun a b => vbinStr .lss a b) (fun a b => vbinStr .leq a b) (fun a b => vbinStr .gtr a b) (fun a b => vbinStr .geq a b)

theorem kStr_eq (op : BinOp) (a b : List UInt8) : kStr op a b = vbinStr op a b := by
  cases op <;> simp only [kStr, vbinStr, fstrEq_eq]
  congr 2; cases h : a == b <;> simp [bsel_ite]

noncomputable def kBinI (L : TypeId → Option TInfo) (op : BinOp) (t : TypeId) (nc : Bool) (k : IntKind) (x : Int) (b : VVal) : Option VVal :=
  match b with
  | .int k' y => bsel (Nat.beq (kindNat k) (kindNat k')) (kInt op k x y) (vbin L op t nc (.int k x) (.int k' y))
  | b => vbin L op t nc (.int k x) b
noncomputable def kBinS (L : TypeId → Option TInfo) (op : BinOp) (t : TypeId) (nc : Bool) (x : List UInt8) (b : VVal) : Option VVal :=
  match b with
  | .str y => kStr op x y
  | b => vbin L op t nc (.str x) b
noncomputable def kBin (L : TypeId → Option TInfo) (op : BinOp) (t : TypeId) (nc : Bool) (a b : VVal) : Option VVal :=
  match a with
  | .int k x => kBinI L op t nc k x b
  | .str x => kBinS L op t nc x b
  | a => vbin L op t nc a b

theorem kBin_eq (L : TypeId → Option TInfo) (op : BinOp) (t : TypeId) (nc : Bool) (a b : VVal) : kBin L op t nc a b = vbin L op t nc a b := by
  cases a <;> try rfl
  case int k x =>
    cases b <;> try rfl
    case int k' y =>
      simp only [kBin, kBinI, bsel_ite, kindNat_eq, decide_eq_true_eq, kInt_eq]
      split
      · next h => subst h; simp [vbin]
      · rfl
  case str x =>
    cases b <;> try rfl
    case str y => simp only [kBin, kBinS, kStr_eq]; rfl

theorem flight_binOp (st : VSt) (L : TypeId → Option TInfo) (op : BinOp) (t : TypeId) (x y : Operand) (yt : TypeId) : st.flight L (.binOp op t x y yt) = vbin L op t (isConstNil x || isConstNil y) (st.ev x) (st.ev y) := by
  rw [flight_eq]; rfl

/-! Parts of a value. -/
noncomputable def kFieldOf (sh : VShape) (f : Nat) (cs : List VVal) : Option VVal :=
  match sh with
  | .struct fs => match fget fs f with
    | some fi => fpart fi.agg fi.size cs fi.off
    | none => none
  | _ => none
noncomputable def kField (L : TypeId → Option TInfo) (t : TypeId) (f : Nat) (v : VVal) : Option VVal :=
  match v with
  | .agg cs => Option.casesOn (motive := fun _ => Option VVal) (L t) none (fun i => kFieldOf i.shape f cs)
  | _ => none

theorem kField_eq (L : TypeId → Option TInfo) (t : TypeId) (f : Nat) (v : VVal) : kField L t f v = vfield L t v f := by
  unfold vfield
  cases v <;> simp only [kField] <;> try (cases L t <;> rfl)
  case agg cs =>
    cases L t with
    | none => rfl
    | some i =>
      simp only [kFieldOf, fget_eq, fpart_eq]
      cases i.shape <;> rfl

noncomputable def kExtract (i : Nat) (v : VVal) : Option VVal :=
  match v with
  | .tuple vs => fget vs i
  | _ => none
theorem kExtract_eq (i : Nat) (v : VVal) : kExtract i v = vextract v i := by
  cases v <;> simp only [kExtract, vextract, fget_eq]

noncomputable def kIxSlice (L : TypeId → Option TInfo) (t : TypeId) (k : IntKind) (cap : Cap) (sh : VShape) (cells : List VVal) (len : Nat) (n : Int) : Option VVal :=
  match sh with
  | .slice e => match L e with
    | some ei => bsel (ilt n 0) none (bsel (ilt n (len : Int)) (match cells with | [] => none | c :: cs => fshift (.iptr (c :: cs)) (n.toNat * ei.size)) none)
    | none => none
  | _ => vindexAddr L t (.slice cells len cap) (.int k n)
noncomputable def kIx2 (L : TypeId → Option TInfo) (t : TypeId) (i : TInfo) (k : IntKind) (n : Int) (x : VVal) : Option VVal :=
  match x with
  | .slice cells len cap => kIxSlice L t k cap i.shape cells len n
  | x => vindexAddr L t x (.int k n)
noncomputable def kIndexAddr (L : TypeId → Option TInfo) (t : TypeId) (x ix : VVal) : Option VVal :=
  match ix with
  | .int k n => Option.casesOn (motive := fun _ => Option VVal) (L t) none (fun i => kIx2 L t i k n x)
  | _ => none

theorem kIndexAddr_eq (L : TypeId → Option TInfo) (t : TypeId) (x ix : VVal) : kIndexAddr L t x ix = vindexAddr L t x ix := by
  cases ix <;> simp only [kIndexAddr] <;> try (unfold vindexAddr; cases L t <;> rfl)
  case int k n =>
    cases h : L t with
    | none => simp only [vindexAddr, h]
    | some i =>
      cases x <;> simp only [kIx2]
      case slice cells len cap =>
        simp only [kIxSlice]
        cases hs : i.shape <;> try rfl
        case slice e =>
          simp only [vindexAddr, h, hs]
          cases L e with
          | none => rfl
          | some ei =>
            simp only [bsel_ite, ilt_eq, decide_eq_true_eq, fshift_eq]
            cases cells with
            | nil => simp
            | cons c cs =>
              by_cases h1 : n < 0
              · rw [if_pos h1, if_neg (by omega)]
              · rw [if_neg h1]
                by_cases h2 : n < (len : Int)
                · rw [if_pos h2, if_pos ⟨by omega, h2, rfl⟩]
                · rw [if_neg h2, if_neg (by omega)]

noncomputable def kIndexStr (s : List UInt8) (n : Int) : Option VVal := bsel (ilt n 0) none (Option.casesOn (motive := fun _ => Option VVal) (fget s n.toNat) none (fun b => some (.int .u8 (.ofNat b.toNat))))
def isStr : VShape → Bool
  | .str => true
  | _ => false
noncomputable def kIndex (L : TypeId → Option TInfo) (t : TypeId) (x ix : VVal) : Option VVal :=
  match x with
  | .str s => match ix with
    | .int _ n => Option.casesOn (motive := fun _ => Option VVal) (L t) none (fun i => bsel (isStr i.shape) (kIndexStr s n) none)
    | _ => none
  | x => vindex L t x ix

theorem kIndex_eq (L : TypeId → Option TInfo) (t : TypeId) (x ix : VVal) : kIndex L t x ix = vindex L t x ix := by
  cases x <;> try rfl
  case str s =>
    simp only [kIndex]
    cases ix <;> simp only <;> try (unfold vindex; cases L t <;> rfl)
    case int k n =>
      cases h : L t with
      | none => simp only [vindex, h]
      | some i =>
        simp only [vindex, h, kIndexStr, bsel_ite, ilt_eq, decide_eq_true_eq, fget_eq]
        have hs : isStr i.shape = true ↔ i.shape = .str := by cases i.shape <;> simp [isStr]
        by_cases h1 : i.shape = .str
        · rw [if_pos (hs.2 h1)]
          by_cases h2 : n < 0
          · rw [if_pos h2, if_neg (by omega)]
          · rw [if_neg h2, if_pos ⟨h1, by omega⟩]
            cases s[n.toNat]? <;> rfl
        · rw [if_neg (fun q => h1 (hs.1 q)), if_neg (fun q => h1 q.1)]

noncomputable def kIfaceOf (sh : VShape) (t : TypeId) (v : VVal) : Option VVal :=
  match sh with
  | .iface _ => none
  | _ => some (.iface t v)
noncomputable def kIface (L : TypeId → Option TInfo) (t : TypeId) (v : VVal) : Option VVal := Option.casesOn (motive := fun _ => Option VVal) (L t) none (fun i => kIfaceOf i.shape t v)

/-! ### Each operation -/
abbrev Han (ρ : Type) := Program → CallF → ESt → Option Nat → (ESt → Option ρ) → (VVal → ESt → Option ρ) → Option ρ

noncomputable def hMove (x : Operand) : Han ρ := fun _ _ E dst K _ => kPut dst (kev x E.tm) E K
noncomputable def kBool (v : VVal) : Option Bool := match v with | .bool b => some b | _ => none
noncomputable def hPick (c a b : Operand) : Han ρ := fun _ _ E dst K _ =>
  Option.casesOn (motive := fun _ => Option ρ) (kBool (kev c E.tm)) none (fun t => kPut dst (bsel t (kev a E.tm) (kev b E.tm)) E K)
noncomputable def hLight (f : Program → ESt → Option VVal) : Han ρ := fun P _ E dst K _ => kLight (f P E) dst E K
noncomputable def hOld (op : Op) : Han ρ := fun P _ E dst K _ => kLight (E.to.flight (layoutOf P) op) dst E K
noncomputable def hStore (t : TypeId) (a x : Operand) : Han ρ := fun P _ E dst K _ => evStore (layoutOf P) E t (kev a E.tm) (kev x E.tm) fun E' => kPut dst .undef E' K
noncomputable def hFieldAddr (s : TypeId) (x : Operand) (f : Nat) : Han ρ := fun P _ E dst K _ => kLight (vfieldAddr (layoutOf P) s (kev x E.tm) f) dst E K
noncomputable def hNil (x : Operand) : Han ρ := fun _ _ E dst K _ => kLight (vnil (kev x E.tm)) dst E K

noncomputable def evAlloc (P : Program) (esc : Nat → Bool) (E : ESt) (dst : Option Nat) (e : TypeId) (K : ESt → Option ρ) : Option ρ :=
  match layoutOf P e with
  | some i => match i.zero.bind vcells with
    | some cs => evNew esc E dst e cs K
    | none => none
  | none => none

noncomputable def evBox (esc : Nat → Bool) (E : ESt) (dst : Option Nat) (t : TypeId) (v : VVal) (K : ESt → Option ρ) : Option ρ :=
  match vcells v with
  | some cs => evNew esc E dst t cs K
  | none => none

noncomputable def evPanic (v : VVal) (E : ESt) (Kp : VVal → ESt → Option ρ) : Option ρ :=
  match v with
  | .iface t v => Kp (.iface t v) E
  | _ => none

noncomputable def hCallValue (f : Operand) (args : Array Operand) : Han ρ := fun _ call E dst K Kp => evCallOp call E dst (kev f E.tm) (kevs args.toList E.tm) K Kp

noncomputable def evAppendOp (P : Program) (E : ESt) (dst : Option Nat) (t xt : TypeId) (v x : VVal) (K : ESt → Option ρ) : Option ρ :=
  match v, fgrowing (layoutOf P) t with
  | .rslice τ sz len, _ => evGrow (layoutOf P) (plainSource P xt) E dst t (.rslice τ sz len) x K
  | v, true => match v with
    | .slice [] 0 .nil => evGrow (layoutOf P) (plainSource P xt) E dst t (.slice [] 0 .nil) x K
    | v => evAppend (layoutOf P) (plainSource P xt) E dst t v x K
  | v, false => evAppend (layoutOf P) (plainSource P xt) E dst t v x K

noncomputable def hAppend (args : Array Operand) (argTypes : Array TypeId) : Han ρ := fun P _ E dst K _ =>
  match args.toList, argTypes.toList with
  | [s, x], [t, xt] => evAppendOp P E dst t xt (kev s E.tm) (kev x E.tm) K
  | _, _ => none

noncomputable def hLen (args : Array Operand) (argTypes : Array TypeId) : Han ρ := fun P _ E dst K _ =>
  match args.toList, argTypes.toList with
  | [x], [t] => kLight (vlen (layoutOf P) E.to.h.ob t (kev x E.tm)) dst E K
  | _, _ => none

noncomputable def hBuiltin (b : Builtin) (args : Array Operand) (argTypes : Array TypeId) : Han ρ :=
  match b with
  | .append => hAppend args argTypes
  | .len => hLen args argTypes
  | b => hOld (.call { callee := .builtin b, args, argTypes })

noncomputable def hCall (c : Call) : Han ρ :=
  match c with
  | ⟨.value f, args, _⟩ => hCallValue f args
  | ⟨.builtin b, args, argTypes⟩ => hBuiltin b args argTypes
  | c => hOld (.call c)

noncomputable def evMakeMap (E : ESt) (dst : Option Nat) (K : ESt → Option ρ) : Option ρ := evNewOb E (.v (.map [] 0)) fun m E' => kPut dst (.map (some m)) E' K

noncomputable def hMakeMap (t : TypeId) (r : Option Operand) : Han ρ :=
  match r with
  | none => fun _ _ E dst K _ => evMakeMap E dst K
  | some r => hOld (.makeMap t (some r))

noncomputable def kStep (op : Op) : Han ρ :=
  Op.casesOn (motive := fun _ => Han ρ) op
    (fun x => hMove x) -- move
    (fun x => hMove x) -- assign
    (fun c a b => hPick c a b)
    (fun e P _ E dst K _ => evAlloc P (fun _ => true) E dst e K)
    (fun t x _ _ E dst K _ => evBox (fun _ => true) E dst t (kev x E.tm) K)
    (fun t parts P _ E dst K _ => kLight (vbuild (layoutOf P) t (kparts parts.toList E.tm)) dst E K)
    (fun t len parts P _ E dst K _ => kLight (vbuildSlice (layoutOf P) t len (kparts parts.toList E.tm)) dst E K)
    (fun t m k v P _ E dst K _ => evMapPut (layoutOf P) E t (kev m E.tm) (kev k E.tm) (kev v E.tm) fun E' => kPut dst .undef E' K) -- insert
    (fun t a => hLight (fun P E => kLoad t a P E))
    (fun t a x => hStore t a x)
    (fun g => hOld (.ready g)) (fun g => hOld (.waits g))
    (fun x => hNil x)
    (fun o t x y _ P _ E dst K _ => kLight (kBin (layoutOf P) o t (isConstNil x || isConstNil y) (kev x E.tm) (kev y E.tm)) dst E K)
    (fun o _ x _ _ E dst K _ => kLight (vun o (kev x E.tm)) dst E K)
    (fun s d x P _ E dst K _ => kLight (vconvert (layoutOf P) E.to.h.ob E.to.h.ty s d (kev x E.tm)) dst E K)
    (fun d x => hOld (.sliceToArrayPointer d x))
    (fun t x P _ E dst K _ => kLight (kIface (layoutOf P) t (kev x E.tm)) dst E K)
    (fun fn first captured _ _ E dst K _ => kPut dst (.func fn (kevs first.toList E.tm) (kevs captured.toList E.tm)) E K)
    (fun t r => hMakeMap t r)
    (fun t s => hOld (.makeChan t s))
    (fun t l c P _ E dst K _ => evMakeSlice (layoutOf P) E dst t (kev l E.tm) (kev c E.tm) K)
    (fun t x lo hi mx => hOld (.slice t x lo hi mx))
    (fun s x f => hFieldAddr s x f)
    (fun t x f P _ E dst K _ => kLight (kField (layoutOf P) t f (kev x E.tm)) dst E K)
    (fun t x ix P _ E dst K _ => kLight (kIndexAddr (layoutOf P) t (kev x E.tm) (kev ix E.tm)) dst E K)
    (fun t x ix P _ E dst K _ => kLight (kIndex (layoutOf P) t (kev x E.tm) (kev ix E.tm)) dst E K)
    (fun t m k ok P _ E dst K _ => kLight (vlookup (layoutOf P) E.to.h.ob t (kev m E.tm) (kev k E.tm) ok) dst E K)
    (fun t m k v P _ E dst K _ => evMapPut (layoutOf P) E t (kev m E.tm) (kev k E.tm) (kev v E.tm) fun E' => kPut dst .undef E' K)
    (fun t m k => hOld (.mapEntry t m k))
    (fun t m s v => hOld (.entryStore t m s v))
    (fun t x P _ E dst K _ => evRangeOp (layoutOf P) E dst t (kev x E.tm) K)
    (fun x s => hOld (.next x s))
    (fun x => hOld (.entry x))
    (fun x _ t ok P _ E dst K _ => kLight (vassert (layoutOf P) (kev x E.tm) t ok) dst E K)
    (fun x i _ _ E dst K _ => kLight (kExtract i (kev x E.tm)) dst E K)
    (fun c => hCall c)
    (fun c => hOld (.go c)) (fun c => hOld (.defer c))
    (fun x _ _ E _ _ Kp => evPanic (kev x E.tm) E Kp)
    (fun c x => hOld (.send c x)) (fun t c ok => hOld (.recv t c ok)) (fun cs b => hOld (.select cs b))

theorem kLight_eq (r : Option VVal) (dst : Option Nat) (E : ESt) (K : ESt → Option ρ) : kLight r dst E K = match r with | some v => evPut E dst v K | none => none := by
  cases r with
  | none => rfl
  | some v => exact kPut_eq _ _ _ _

theorem kStep_eq (call : CallF) (E : ESt) (o : Oper) (K : ESt → Option ρ) (Kp : VVal → ESt → Option ρ) : kStep o.op P call E o.dst K Kp = evStep P call (fun _ => true) E o K Kp := by
  obtain ⟨dst, op, type, pos, after, guard⟩ := o
  cases op
  case call c =>
    obtain ⟨callee, args, argTypes⟩ := c
    cases callee with
    | value f => simp only [kStep, hCall, hCallValue, evStep, kev_eq, kevs_eq]
    | invoke r m => simp only [kStep, hCall, hOld, kLight_eq]; rfl
    | builtin b =>
      cases b <;> try (simp only [kStep, hCall, hBuiltin, hOld, kLight_eq]; rfl)
      · simp only [kStep, hCall, hBuiltin, hAppend, evStep, kev_eq]
        split
        · next h1 h2 => simp only [h1, h2, evAppendOp]; rfl
        · next h => 
          split
          · next h1 h2 => exact absurd h2 (h _ _ _ _ h1)
          · rfl
      · simp only [kStep, hCall, hBuiltin, hLen, evStep, kev_eq]
        unfold VSt.flight VSt.light
        simp only
        split
        · next h1 h2 => simp only [h1, h2, kLight_eq]; try rfl
        · next h =>
          split
          · next h1 h2 =>
            exfalso
            split at h2
            · next e1 e2 => exact h _ _ e1 e2
            · cases h2
          · rfl
  case makeMap t r => cases r <;> simp only [kStep, hMakeMap, evMakeMap, hOld, kLight_eq, kPut_eq, evStep] <;> rfl
  case pick c a b =>
    simp only [kStep, hPick, evStep, VSt.flight, VSt.light, kev_eq]
    cases E.to.ev c <;> simp only [kBool, kPut_eq]
    rw [bsel_ite]
  case binOp op t x y yt => simp only [kStep, kLight_eq, kBin_eq, kev_eq, evStep, flight_binOp]; rfl
  case field t x f => simp only [kStep, kLight_eq, kField_eq, kev_eq, evStep, flight_eq]; rfl
  case extract x i => simp only [kStep, kLight_eq, kExtract_eq, kev_eq, evStep, flight_eq]; rfl
  case indexAddr t x i => simp only [kStep, kLight_eq, kIndexAddr_eq, kev_eq, evStep, flight_eq]; rfl
  case index t x i => simp only [kStep, kLight_eq, kIndex_eq, kev_eq, evStep, flight_eq]; rfl
  case makeInterface t x =>
    simp only [kStep, kLight_eq, kIface, kev_eq, evStep, flight_eq, VSt.light]
    cases layoutOf P t with
    | none => rfl
    | some i => simp only [kIfaceOf]; cases i.shape <;> rfl
  case load t a => simp only [kStep, hLight, kLight_eq, kLoad_eq, evStep]; rfl
  case box t x => simp only [kStep, evBox, evStep, kev_eq]; rfl
  case panic x => simp only [kStep, evPanic, evStep, kev_eq]; rfl
  case alloc e => simp only [kStep, evAlloc, evStep]; rfl
  all_goals (simp only [kStep, hMove, hOld, hStore, hFieldAddr, hNil, kLight_eq, kPut_eq, kev_eq, kevs_eq, kparts_eq, evStep, VSt.flight, VSt.light]; try rfl)

end
end Go.Pv

/- The evaluator at the kernel's pace: regions, code, calls. -/
namespace Go.Pv
variable {P : Program}
section
variable {ρ : Type}

noncomputable def callKind (c : Call) : Nat := Callee.casesOn (motive := fun _ => Nat) c.callee (fun _ => 2) (fun _ _ => 0) (fun _ => 0)
noncomputable def opKind (op : Op) : Nat :=
  Op.casesOn (motive := fun _ => Nat) op (fun _ => 0) (fun _ => 0) (fun _ _ _ => 0) (fun _ => 0) (fun _ _ => 0) (fun _ _ => 0) (fun _ _ _ => 0) (fun _ _ _ _ => 0) (fun _ _ => 0) (fun _ _ _ => 0) (fun _ => 0) (fun _ => 0) (fun _ => 0)
    (fun _ _ _ _ _ => 0) (fun _ _ _ => 0) (fun _ _ _ => 0) (fun _ _ => 0) (fun _ _ => 0) (fun _ _ _ => 0) (fun _ _ => 0) (fun _ _ => 0) (fun _ _ _ => 0) (fun _ _ _ _ _ => 0) (fun _ _ _ => 0) (fun _ _ _ => 0) (fun _ _ _ => 0) (fun _ _ _ => 0)
    (fun _ _ _ _ => 0) (fun _ _ _ _ => 0) (fun _ _ _ => 0) (fun _ _ _ _ => 0) (fun _ _ => 0) (fun _ _ => 0) (fun _ => 0) (fun _ _ _ _ => 0) (fun _ _ => 0) (fun c => callKind c) (fun _ => 0) (fun _ => 1) (fun _ => 0) (fun _ _ => 0) (fun _ _ _ => 0) (fun _ _ => 0)

noncomputable def kCallX (v : VVal) (args : List VVal) (rec : CodeF) (call : CallF) (E : ESt) (dst : Option Nat) (K : ESt → Option ρ) (Kp : VVal → ESt → Option ρ) : Option ρ :=
  match v with
  | .yieldv y => evYield rec E dst y args K
  | v => evCallOp call E dst v args K Kp

noncomputable def kStepX2 (P : Program) (rec : CodeF) (rd : Bool) (call : CallF) (E : ESt) (df : List VDef) (o : Oper) (K : ESt → List VDef → Option ρ) (Kp : VVal → ESt → List VDef → Option ρ) : Option ρ :=
  match o.op with
  | .call ⟨.value f, args, _⟩ => kCallX (kev f E.tm) (kevs args.toList E.tm) rec call E o.dst (fun E' => K E' df) (fun v E' => Kp v E' df)
  | _ => evStepX P rec rd call (fun _ => true) E df o K Kp

noncomputable def kStepX (P : Program) (rec : CodeF) (rd : Bool) (call : CallF) (E : ESt) (df : List VDef) (o : Oper) (K : ESt → List VDef → Option ρ) (Kp : VVal → ESt → List VDef → Option ρ) : Option ρ :=
  bsel (Nat.beq (opKind o.op) 0) (kStep o.op P call E o.dst (fun E' => K E' df) (fun v E' => Kp v E' df)) (kStepX2 P rec rd call E df o K Kp)

theorem kStepX_eq (rec : CodeF) (rd : Bool) (call : CallF) (E : ESt) (df : List VDef) (o : Oper) (K : ESt → List VDef → Option ρ) (Kp : VVal → ESt → List VDef → Option ρ) :
    kStepX P rec rd call E df o K Kp = evStepX P rec rd call (fun _ => true) E df o K Kp := by
  unfold kStepX
  rw [kStep_eq]
  obtain ⟨dst, op, type, pos, after, guard⟩ := o
  cases op
  case call c =>
    obtain ⟨callee, args, argTypes⟩ := c
    cases callee with
    | value f =>
      refine Eq.trans (b := kStepX2 P rec rd call E df ⟨dst, .call ⟨.value f, args, argTypes⟩, type, pos, after, guard⟩ K Kp) rfl ?_
      simp only [kStepX2, evStepX, kev_eq, kevs_eq, evStep]
      cases E.to.ev f <;> rfl
    | invoke r m => rfl
    | builtin b => rfl
  case defer c => rfl
  all_goals rfl

noncomputable def kOps (P : Program) (call : CallF) (ops : Array Oper) (K : ESt → Option ρ) (Kp : VVal → ESt → Option ρ) (l : List Oper) : ESt → Option ρ :=
  List.rec (motive := fun _ => ESt → Option ρ) K (fun o _ ih E => match o.guard with
    | none => kStep o.op P call E o.dst ih Kp
    | some (j, want) => match (fget ops.toList j).bind (·.dst) with
      | some d => match kget E.tm d with
        | .bool b => match b, want with
          | true, true => kStep o.op P call E o.dst ih Kp
          | false, false => kStep o.op P call E o.dst ih Kp
          | true, false => evPut E o.dst (.tuple []) ih
          | false, true => evPut E o.dst (.tuple []) ih
        | .tuple _ => evPut E o.dst (.tuple []) ih
        | _ => none
      | none => none) l

theorem kOps_eq (call : CallF) (ops : Array Oper) (K : ESt → Option ρ) (Kp : VVal → ESt → Option ρ) (l : List Oper) : kOps P call ops K Kp l = evOps P call (fun _ => true) ops K Kp l := by
  induction l with
  | nil => rfl
  | cons o l ih =>
    funext E
    show (match o.guard with
    | none => kStep o.op P call E o.dst (kOps P call ops K Kp l) Kp
    | some (j, want) => match (fget ops.toList j).bind (·.dst) with
      | some d => match kget E.tm d with
        | .bool b => match b, want with
          | true, true => kStep o.op P call E o.dst (kOps P call ops K Kp l) Kp
          | false, false => kStep o.op P call E o.dst (kOps P call ops K Kp l) Kp
          | true, false => evPut E o.dst (.tuple []) (kOps P call ops K Kp l)
          | false, true => evPut E o.dst (.tuple []) (kOps P call ops K Kp l)
        | .tuple _ => evPut E o.dst (.tuple []) (kOps P call ops K Kp l)
        | _ => none
      | none => none) = _
    simp only [ih, kStep_eq, kget_eq]
    rfl

noncomputable def kOpsX (P : Program) (rec : CodeF) (rd : Bool) (call : CallF) (K : ESt → List VDef → Option ρ) (Kp : VVal → ESt → List VDef → Option ρ) (l : List Oper) : ESt → List VDef → Option ρ :=
  List.rec (motive := fun _ => ESt → List VDef → Option ρ) K (fun o _ ih E df => kStepX P rec rd call E df o ih Kp) l

theorem kOpsX_eq (rec : CodeF) (rd : Bool) (call : CallF) (K : ESt → List VDef → Option ρ) (Kp : VVal → ESt → List VDef → Option ρ) : ∀ (l : List Oper), (l.all fun o => o.guard.isNone) = true → kOpsX P rec rd call K Kp l = evOpsX P rec rd call (fun _ => true) K Kp l
  | [], _ => rfl
  | o :: l, h => by
    simp only [List.all_cons, Bool.and_eq_true] at h
    funext E df
    show kStepX P rec rd call E df o (kOpsX P rec rd call K Kp l) Kp = _
    rw [kOpsX_eq rec rd call K Kp l h.2, kStepX_eq]
    have hg : o.guard = none := by simpa using h.1
    show _ = (match o.guard with
      | none => evStepX P rec rd call (fun _ => true) E df o (evOpsX P rec rd call (fun _ => true) K Kp l) Kp
      | some _ => none)
    rw [hg]

end

noncomputable def kRegion (P : Program) (rec : CodeF) (rd : Bool) (call : CallF) (ops : Array Oper) (draw : Bool) (E : ESt) (df : List VDef) : Option XR :=
  bsel draw (evRegion P rec rd call ops true E df)
    (bsel (noGuards ops) (kOpsX P rec rd call (fun E' df' => some (.normal, E', df')) (fun v E' df' => some (.panic v, E', df')) ops.toList E df)
      (bsel (noDefer ops) (kOps P call ops (fun E' => some (.normal, E', df)) (fun v E' => some (.panic v, E', df)) ops.toList E) none))

theorem kRegion_eq (rec : CodeF) (rd : Bool) (call : CallF) (ops : Array Oper) (draw : Bool) (E : ESt) (df : List VDef) : kRegion P rec rd call ops draw E df = evRegion P rec rd call ops draw E df := by
  cases draw with
  | true => rfl
  | false =>
    show bsel (noGuards ops) _ _ = bsel (noGuards ops) _ _
    cases h : noGuards ops with
    | true =>
      simp only [bsel_true]
      rw [kOpsX_eq _ _ _ _ _ _ (by unfold noGuards at h; rw [← Array.all_toList] at h; exact h)]
    | false =>
      simp only [bsel_false, kOps_eq]

noncomputable def thenN (r : Option XR) (k : ESt → List VDef → Option XR) : Option XR :=
  match r with
  | some (.normal, E', df') => k E' df'
  | r => r
noncomputable def kBlock (r : Option XR) (id : Nat) : Option XR :=
  match r with
  | some (.exit j, E', df') => bsel (Nat.beq j id) (some (.normal, E', df')) (some (.exit j, E', df'))
  | r => r
noncomputable def kCond (v : VVal) (x y : Option XR) : Option XR :=
  match v with
  | .bool true => x
  | .bool false => y
  | _ => none

noncomputable def kCodeStep (c : Code) : Program → (Nat → Option Func) → CallF → Nat → CodeF → Bool → ESt → List VDef → Option XR :=
  Code.casesOn (motive := fun _ => Program → (Nat → Option Func) → CallF → Nat → CodeF → Bool → ESt → List VDef → Option XR) c
    (fun _ _ _ _ _ _ E df => some (.normal, E, df))
    (fun _ ops draw P _ call _ rec rd E df => kRegion P rec rd call ops draw E df)
    (fun a b _ _ _ _ rec rd E df => thenN (rec rd a E df) (rec rd b))
    (fun c x y _ _ _ _ rec rd E df => kCond (kev c E.tm) (rec rd x E df) (rec rd y E df))
    (fun id c _ _ _ _ rec rd E df => kBlock (rec rd c E df) id)
    (fun c _ _ _ n rec rd E df => evLoop rec rd c n E df)
    (fun g ps assign body _ funcs call _ rec rd E df => bsel rd none (evRange funcs rec call (kev g E.tm) ps assign body E df))
    (fun i _ _ _ _ _ _ E df => some (.exit i, E, df))
    (fun c _ _ _ n rec rd E df => evScope rec rd c n c E df)
    (fun _ _ _ _ _ _ _ E df => some (.normal, E, df))
    (fun l _ _ _ _ _ _ E df => some (.goto l, E, df))
    (fun _ _ _ _ _ _ E df => some (.ret, E, df))
    (fun _ _ _ _ _ _ _ _ _ => none)

noncomputable def kCode (P : Program) (funcs : Nat → Option Func) (call : CallF) (fuel : Nat) : CodeF :=
  Nat.rec (motive := fun _ => CodeF) (fun _ _ _ _ => none) (fun n rec rd c E df => kCodeStep c P funcs call n rec rd E df) fuel

theorem kCode_eq (funcs : Nat → Option Func) (call : CallF) (fuel : Nat) : kCode P funcs call fuel = evCode P funcs call fuel := by
  induction fuel with
  | zero => rfl
  | succ n ih =>
    funext rd c E df
    show kCodeStep c P funcs call n (kCode P funcs call n) rd E df = _
    rw [ih]
    cases c
    case region id ops draw => exact kRegion_eq _ _ _ _ _ _ _
    case seq a b => rfl
    case cond c x y =>
      show kCond (kev c E.tm) _ _ = _
      rw [kev_eq]; rfl
    case rangeFunc g ps assign body =>
      show bsel rd none (evRange funcs _ call (kev g E.tm) ps assign body E df) = _
      rw [kev_eq]
      cases rd <;> rfl
    all_goals rfl

noncomputable def kCall (P : Program) (funcs : Nat → Option Func) (hook : Hooks) (fuel : Nat) (depth : Nat) : CallF :=
  Nat.rec (motive := fun _ => CallF) (fun _ _ _ => none) (fun _ call f args h => match hook f args h with
    | some r => r
    | none => match funcs f with
      | some fn => match fn.body with
        | some c => evBody P funcs (kCode P funcs call fuel) fn c args h
        | none => none
      | none => none) depth

theorem kCall_eq (funcs : Nat → Option Func) (hook : Hooks) (fuel depth : Nat) : kCall P funcs hook fuel depth = evCall P funcs hook fuel depth := by
  induction depth with
  | zero => rfl
  | succ n ih =>
    funext f args h
    show (match hook f args h with
    | some r => r
    | none => match funcs f with
      | some fn => match fn.body with
        | some c => evBody P funcs (kCode P funcs (kCall P funcs hook fuel n) fuel) fn c args h
        | none => none
      | none => none) = _
    simp only [ih, kCode_eq]
    rfl

end Go.Pv

/- Calls of plain values: what they make is forgotten. -/
namespace Go.Pv
variable {P : Program}

mutual
/-- A value that names no memory but rows that stay. -/
def pureV : VVal → Bool
  | .undef | .bool _ | .int _ _ | .str _ | .nilp | .nilFunc | .nilIface | .map none => true
  | .iptr cs => pureVs cs
  | .slice cs _ cap => (match cap with | .tok _ _ => false | _ => true) && pureVs cs
  | .func _ a b => pureVs a && pureVs b
  | .iface _ v => pureV v
  | .agg cs => pureVs cs
  | .tuple cs => pureVs cs
  | _ => false
def pureVs : List VVal → Bool
  | [] => true
  | v :: vs => pureV v && pureVs vs
end

mutual
theorem VRel.rows {G G' : Ghost} (h : ∀ b rc t, G.kind b = .row rc t → G'.kind b = .row rc t) : ∀ {x : VVal} {v : Value}, pureV x = true → VRel G x v → VRel G' x v
  | .undef, _, _, _ => by simp only [VRel]
  | .bool b, _, _, k => by simpa only [VRel] using k
  | .int _ n, _, _, k => by simpa only [VRel] using k
  | .str s, _, _, k => by simpa only [VRel] using k
  | .nilp, _, _, k => by simpa only [VRel] using k
  | .ptr o off, _, p, k => by simp [pureV] at p
  | .lptr s v off, _, p, k => by simp [pureV] at p
  | .iptr cells, _, p, k => by
    simp only [pureV] at p
    simp only [VRel] at k ⊢
    obtain ⟨b, off, rc, total, e, r, l, c⟩ := k
    exact ⟨b, off, rc, total, h _ _ _ e, r, l, VRels.rows h p c⟩
  | .slice cells len cap, _, p, k => by
    simp only [pureV, Bool.and_eq_true] at p
    simp only [VRel] at k ⊢
    obtain ⟨a, rcap, r, l, c, s⟩ := k
    refine ⟨a, rcap, r, l, ?_, ?_⟩
    · cases cap with
      | tok t sz => simp at p
      | any => trivial
      | nil => exact c
      | exact n => exact c
    · rcases s with s | ⟨b, off, rc, total, ea, e, l, c⟩
      · exact .inl s
      · exact .inr ⟨b, off, rc, total, ea, h _ _ _ e, l, VRels.rows h p.2 c⟩
  | .mslice o off len cap, _, p, k => by simp [pureV] at p
  | .map none, _, _, k => by simpa only [VRel] using k
  | .map (some o), _, p, k => by simp [pureV] at p
  | .func fn first captured, _, p, k => by
    simp only [pureV, Bool.and_eq_true] at p
    simp only [VRel] at k ⊢
    obtain ⟨f, c, r, h1, h2⟩ := k
    exact ⟨f, c, r, VRels.rows h p.1 h1, VRels.rows h p.2 h2⟩
  | .nilFunc, _, _, k => by simpa only [VRel] using k
  | .iface t x, _, p, k => by
    simp only [pureV] at p
    simp only [VRel] at k ⊢
    obtain ⟨y, r, e⟩ := k
    exact ⟨y, r, VRel.rows h p e⟩
  | .nilIface, _, _, k => by simpa only [VRel] using k
  | .agg cells, _, p, k => by
    simp only [pureV] at p
    simp only [VRel] at k ⊢
    obtain ⟨c, r, e, o⟩ := k
    exact ⟨c, r, VRels.rows h p e, o⟩
  | .tuple cells, _, p, k => by
    simp only [pureV] at p
    simp only [VRel] at k ⊢
    obtain ⟨c, r, e⟩ := k
    exact ⟨c, r, VRels.rows h p e⟩
  | .yieldv o, _, p, k => by simp [pureV] at p
  | .rslice _ _ _, _, p, k => by simp [pureV] at p
  | .gptr _ _ _ _, _, p, k => by simp [pureV] at p
  | .fptr _ _, _, p, k => by simp [pureV] at p
theorem VRels.rows {G G' : Ghost} (h : ∀ b rc t, G.kind b = .row rc t → G'.kind b = .row rc t) : ∀ {xs : List VVal} {vs : List Value}, pureVs xs = true → VRels G xs vs → VRels G' xs vs
  | [], _, _, k => by simpa only [VRels] using k
  | x :: xs, _, p, k => by
    simp only [pureVs, Bool.and_eq_true] at p
    simp only [VRels] at k ⊢
    obtain ⟨y, ys, r, h1, h2⟩ := k
    exact ⟨y, ys, r, VRel.rows h p.1 h1, VRels.rows h p.2 h2⟩
end

def Kind.bare : Kind → Kind
  | .row rc t => .row rc t
  | _ => .free

theorem Kind.bare_row {k : Kind} {rc : List Value} {t : Nat} (h : k.bare = .row rc t) : k = .row rc t := by cases k <;> simp [Kind.bare] at h ⊢; exact h

/-- The rows alone. -/
def Ghost.bare (G : Ghost) : Ghost := { kind := fun b => (G.kind b).bare, fam := fun _ => none, bound := 0 }

theorem MemOk.bare {M : VMem} {G : Ghost} {w : World} (h : MemOk M G w) : MemOk EH0.to.mem G.bare w where
  ob o x e := by cases e
  lc s v vs e := by cases e
  fm t n e := by cases e
  rows b rc t e := h.rows b rc t (Kind.bare_row e)
  lt b e := h.lt b (fun q => e (by show (G.kind b).bare = .free; rw [q]; rfl))
  obB b o e := by
    have : (G.kind b).bare = .obj o := e
    cases hk : G.kind b <;> rw [hk] at this <;> cases this
  lcB b s v e := by
    have : (G.kind b).bare = .loc s v := e
    cases hk : G.kind b <;> rw [hk] at this <;> cases this
  fmB t p e := by cases e
  grB b t n e := by
    have : (G.kind b).bare = .grow t n := e
    cases hk : G.kind b <;> rw [hk] at this <;> cases this
  obI b b' o e e' := by
    have : (G.kind b).bare = .obj o := e
    cases hk : G.kind b <;> rw [hk] at this <;> cases this
  lcI b b' s v e e' := by
    have : (G.kind b).bare = .loc s v := e
    cases hk : G.kind b <;> rw [hk] at this <;> cases this
  fmI t t' b n n' e e' := by cases e
  fmK t b n e := by cases e
  bd n e := by cases e; rfl
  gr t vs e := by cases e
  ty k e q := by cases q

theorem not_acc_bare (G : Ghost) (b : Nat) : ¬ Acc EH0.to.mem G.bare b := by
  intro h
  unfold Acc at h
  have e : G.bare.kind b = (G.kind b).bare := rfl
  rw [e] at h
  cases hk : G.kind b <;> rw [hk] at h <;> simp only [Kind.bare] at h
  obtain ⟨t, n, h1, _⟩ := h
  cases h1

/-- A call that gives a plain value and leaves the known memory alone. -/
def PureCall (P : Program) (k : FuncId) (args : List VVal) (r : VVal) : Prop := ∀ h, VCalls P k args h (fun o h' => o = .ret r ∧ h' = h)

theorem pure_back {h : VHeap} {G : Ghost} {w : World} (hm : MemOk h.mem G w) {v r : VVal} {h1 : VHeap} {e : Ending} {w' : World} (hr : r = forget v) (hp : pureV r = true)
    (hc : CallPost EH0.to G.bare w (fun o hh => o = .ret v ∧ hh = h1) e w') : CallPost h G w (fun o h' => o = .ret r ∧ h' = h) e w' := by
  obtain ⟨G1, h1', out, ⟨rfl, rfl⟩, he, m1, t1⟩ := hc
  let G' : Ghost := { kind := fun b => if b < w.heap.size then G.kind b else (G1.kind b).bare, fam := G.fam, bound := G.bound }
  have hkeep : ∀ b, b < w.heap.size → w'.heap[b]? = w.heap[b]? ∧ G1.kind b = (G.kind b).bare := fun b hb => t1.keep b hb (not_acc_bare G b)
  have hlt : ∀ b, b < w.heap.size → G'.kind b = G.kind b := fun b hb => if_pos hb
  have hge : ∀ b, ¬ b < w.heap.size → G'.kind b = (G1.kind b).bare := fun b hb => if_neg hb
  have hsome : ∀ b, G.kind b ≠ .free → G'.kind b = G.kind b := fun b hb => hlt b (hm.lt b hb)
  have hrow : ∀ b rc t, G1.kind b = .row rc t → G'.kind b = .row rc t := by
    intro b rc t hk
    by_cases hb : b < w.heap.size
    · rw [(hkeep b hb).2] at hk
      rw [hlt b hb]; exact Kind.bare_row hk
    · rw [hge b hb, hk]; rfl
  have hrow' : ∀ b, ¬ b < w.heap.size → (∃ rc t, G'.kind b = .row rc t ∧ G1.kind b = .row rc t) ∨ G'.kind b = .free := by
    intro b hb
    rw [hge b hb]
    cases hk : G1.kind b <;> simp [Kind.bare]
  have hext : Ext G G' :=
    { obj := fun b o e => by rw [hsome b (by rw [e]; simp)]; exact e
      loc := fun b s v e => by rw [hsome b (by rw [e]; simp)]; exact e
      row := fun b rc t e => ⟨rc, by rw [hsome b (by rw [e]; simp)]; exact e, List.prefix_refl _⟩
      grow := fun b t n e => by rw [hsome b (by rw [e]; simp)]; exact e
      bound := Nat.le_refl _
      fam := fun t b m _ e => ⟨b, m, e, .inl ⟨rfl, rfl⟩⟩ }
  have hold : ∀ {b : Nat} {K : Kind}, G'.kind b = K → K ≠ .free → (∀ rc t, K ≠ .row rc t) → b < w.heap.size ∧ G.kind b = K := by
    intro b K e h1 h2
    by_cases hb : b < w.heap.size
    · exact ⟨hb, by rw [← hlt b hb]; exact e⟩
    · rcases hrow' b hb with ⟨rc, t, q, _⟩ | q
      · rw [q] at e; exact absurd e.symm (h2 rc t)
      · rw [q] at e; exact absurd e.symm h1
  have hheap : ∀ b, G.kind b ≠ .free → w'.heap[b]? = w.heap[b]? := fun b hb => (hkeep b (hm.lt b hb)).1
  have hm' : MemOk h.mem G' w' :=
    { ob := fun o x e => (hm.ob o x e).mono hext (fun b hb => hheap b (by rw [hb]; simp))
      lc := fun s v x e => (hm.lc s v x e).mono hext (fun b hb => hheap b (by rw [hb]; simp))
      fm := fun t n e => by
        obtain ⟨b, rc, total, q1, q2, q3⟩ := hm.fm t n e
        exact ⟨b, rc, total, q1, by rw [hsome b (by rw [q2]; simp)]; exact q2, q3⟩
      rows := fun b rc t e => by
        by_cases hb : b < w.heap.size
        · rw [hlt b hb] at e
          obtain ⟨c, E, fr, q1, q2⟩ := hm.rows b rc t e
          exact ⟨c, E, fr, by rw [(hkeep b hb).1]; exact q1, q2⟩
        · rcases hrow' b hb with ⟨rc', t', q, q2⟩ | q
          · rw [q] at e; cases e
            exact m1.rows b rc t q2
          · rw [q] at e; cases e
      lt := fun b e => by
        by_cases hb : b < w.heap.size
        · exact Nat.lt_of_lt_of_le hb t1.size
        · rcases hrow' b hb with ⟨rc', t', q, q2⟩ | q
          · exact m1.lt b (by rw [q2]; simp)
          · exact absurd q e
      obB := fun b o e => hm.obB b o (hold e (by simp) (by simp)).2
      lcB := fun b s v e => hm.lcB b s v (hold e (by simp) (by simp)).2
      fmB := hm.fmB
      grB := fun b t n e => hm.grB b t n (hold e (by simp) (by simp)).2
      obI := fun b b' o e e' => hm.obI b b' o (hold e (by simp) (by simp)).2 (hold e' (by simp) (by simp)).2
      lcI := fun b b' s v e e' => hm.lcI b b' s v (hold e (by simp) (by simp)).2 (hold e' (by simp) (by simp)).2
      fmI := hm.fmI
      fmK := fun t b n e => by
        rcases hm.fmK t b n e with ⟨rc, total, hk⟩ | ⟨total, hk⟩
        · exact .inl ⟨rc, total, by rw [hsome b (by rw [hk]; simp)]; exact hk⟩
        · exact .inr ⟨total, by rw [hsome b (by rw [hk]; simp)]; exact hk⟩
      bd := hm.bd
      gr := fun t vs e => (hm.gr t vs e).mono hext (fun _ _ e => e) (fun b n hb => hheap b (by rw [hb]; simp))
      ty := fun k e q => by
        obtain ⟨q1, q2, q3⟩ := hm.ty k e q
        refine ⟨q1, fun b hb => ?_, fun b n hb => ?_⟩
        · obtain ⟨r1, r2⟩ := hold hb (by simp) (by simp)
          rw [(hkeep b r1).1]; exact q2 b r2
        · have hne : G.kind b ≠ .free := by
            rcases hm.fmK k b n hb with ⟨rc, total, hk⟩ | ⟨total, hk⟩ <;> rw [hk] <;> simp
          rw [hheap b hne]; exact q3 b n hb }
  have ht : Trans h.mem G w h.mem G' w' :=
    { ext := hext
      size := t1.size
      dob := fun _ e => .inl e
      dlc := fun _ _ e => .inl e
      dfm := fun _ e => .inl e
      dgr := fun _ e => .inl e
      keep := fun b hb _ => ⟨(hkeep b hb).1, hlt b hb⟩
      famold := fun t b n _ e => ⟨n, e⟩
      os := t1.os, tape := t1.tape, output := t1.output
      nob := fun b o e => .inl (hold e (by simp) (by simp)).2
      dty := fun _ e => .inl e }
  refine ⟨G', h, .ret r, ⟨rfl, rfl⟩, ?_, hm', ht⟩
  cases e with
  | returned v0 =>
    have h1 : VRel G1 v v0 := he
    have h2 := forget_weak v G1 v0 h1
    rw [← hr] at h2
    exact VRel.rows hrow hp h2
  | panicked c => exact he.elim
  | outgrown => exact he.elim

theorem pure_of {k : FuncId} {args : List VVal} {v r : VVal} {h1 : VHeap} (h : VCalls P k args EH0.to (fun o hh => o = .ret v ∧ hh = h1)) (ha : pureVs args = true) (hr : r = forget v) (hp : pureV r = true) : PureCall P k args r := by
  intro hh G w rargs hm hargs
  have hargs' : VRels G.bare args rargs.toList := VRels.rows (fun b rc t e => by show (G.kind b).bare = _; rw [e]; rfl) ha hargs
  rcases h G.bare w rargs hm.bare hargs' with ⟨q1, q2⟩ | ⟨v', w', q1, q2⟩
  · exact .inl ⟨q1, q2.mono fun e w' hc => pure_back hm hr hp hc⟩
  · exact .inr ⟨v', w', q1, pure_back hm hr hp q2⟩

/-- What a run gives, with nothing said of capacities. -/
noncomputable def outPure (r : Option (VOut × EH)) : Option VVal :=
  match r with
  | some (.ret v, _) => some (forget v)
  | _ => none

theorem pure_run {funcs : Nat → Option Func} {hook : Hooks} (hmix : P.follows .mixedOrders = true) (hf : FuncsOk P funcs) (hh : HooksOk P hook) {fuel depth : Nat} {k : FuncId} {args : List VVal} {r : VVal}
    (h : outPure (kCall P funcs hook fuel depth k args EH0) = some r) (ha : pureVs args = true) (hp : pureV r = true) : PureCall P k args r := by
  rw [kCall_eq] at h
  unfold outPure at h
  split at h
  · next v h' he =>
    simp at h; subst h
    exact pure_of (h1 := h'.to) (evCall_sound hmix hf hh _ _ _ _ _ _ he) ha rfl hp
  · cases h

/-! ### Known calls, as a hook -/
structure Known where
  k : FuncId
  args : List VVal
  r : VVal

noncomputable def knownHook (l : List Known) (base : Hooks) : Hooks := fun f args h =>
  List.rec (motive := fun _ => Option (Option (VOut × EH))) (base f args h) (fun x _ ih => bsel (Nat.beq f x.k) (bsel (vsames (forgets args) x.args) (some (some (.ret x.r, h))) ih) ih) l

theorem knownHook_ok {l : List Known} {base : Hooks} (hb : HooksOk P base) (hl : ∀ x ∈ l, PureCall P x.k x.args x.r) : HooksOk P (knownHook l base) := by
  intro f args h r h' e
  induction l with
  | nil => exact hb _ _ _ _ _ e
  | cons x l ih =>
    have e : bsel (Nat.beq f x.k) (bsel (vsames (forgets args) x.args) (some (some (VOut.ret x.r, h))) (knownHook l base f args h)) (knownHook l base f args h) = some (some (r, h')) := e
    rw [bsel_beq, bsel_ite] at e
    split at e
    · next hk =>
      split at e
      · next hs =>
        simp at e; obtain ⟨rfl, rfl⟩ := e
        have ha := vsames_eq _ _ hs
        subst hk
        intro G w rargs hm hargs
        have := hl x (by simp) h.to G w rargs hm (by rw [← ha]; exact forgets_weak args G _ hargs)
        exact this
      · exact ih (fun y hy => hl y (by simp [hy])) e
    · exact ih (fun y hy => hl y (by simp [hy])) e

end Go.Pv

/- A law without arguments, run from nothing known. -/
namespace Go.Pv
variable {P : Program}

theorem run_true {funcs : Nat → Option Func} {hook : Hooks} (hmix : P.follows .mixedOrders = true) (hf : FuncsOk P funcs) (hh : HooksOk P hook) {fuel depth : Nat} {k : FuncId}
    (h : retBool (kCall P funcs hook fuel depth k [] EH0) = some true) : VCalls P k [] EH0.to (fun o _ => o = .ret (.bool true)) := by
  rw [kCall_eq] at h
  unfold retBool at h
  split at h
  · next b h' he =>
    simp at h; subst h
    exact VCalls.mono (evCall_sound hmix hf hh _ _ _ _ _ _ he) fun o hh ⟨e, _⟩ => e
  · cases h

/-- Nothing is known of the memory at the start. -/
def Ghost.none : Ghost := { kind := fun _ => .free, fam := fun _ => Option.none, bound := 0 }

theorem MemOk.none (w : World) : MemOk EH0.to.mem Ghost.none w where
  ob o x e := by cases e
  lc s v vs e := by cases e
  fm t n e := by cases e
  rows b rc t e := by cases e
  lt b e := absurd rfl e
  obB b o e := by cases e
  lcB b s v e := by cases e
  fmB t p e := by cases e
  grB b t n e := by cases e
  obI b b' o e e' := by cases e
  lcI b b' s v e e' := by cases e
  fmI t t' b n n' e e' := by cases e
  fmK t b n e := by cases e
  bd n e := by cases e; rfl
  gr t vs e := by cases e
  ty k e q := by cases q

theorem walk_true {k : FuncId} {fn : Func} (hf : P.funcs[k]? = some fn) (hb : fn.body.isSome = true) (hn : (fn.name == "runtime.NumGoroutine") = false) (h : VCalls P k [] EH0.to (fun o _ => o = .ret (.bool true))) (w : World) :
    Calls P k #[] w fun e w' => e = .returned (.bool true) ∧ ∀ may, w.keptBut w' may := by
  obtain ⟨c, hc⟩ := Option.isSome_iff_exists.1 hb
  rcases h Ghost.none w #[] (MemOk.none w) (by simp [VRels]) with ⟨_, h2⟩ | ⟨v', w', h1, _⟩
  · refine h2.mono ?_
    rintro e w' ⟨G', h', out, rfl, he, m, t⟩
    cases e with
    | returned v =>
      have hv : VRel G' (.bool true) v := he
      simp only [VRel] at hv
      subst hv
      refine ⟨rfl, fun may => ⟨t.os, t.output, fun i hi => ?_⟩⟩
      have e1 := (t.keep i hi (by simp [Acc, Ghost.none])).1
      rw [e1]
      cases w.heap[i]? with
      | none => rfl
      | some o =>
        cases o
        case cells => exact ⟨rfl, rfl, rfl, fun _ _ => rfl⟩
        case map => exact .inr ⟨rfl, rfl⟩
        all_goals rfl
    | panicked c => exact he.elim
    | outgrown => exact he.elim
  · rw [callFunc_enter hf hc hn #[] w] at h1
    cases h1

end Go.Pv
