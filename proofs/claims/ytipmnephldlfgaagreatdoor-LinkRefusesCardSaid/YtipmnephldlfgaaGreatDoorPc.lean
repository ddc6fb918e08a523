/-
  Calls, regions that draw their order, ranges over functions, deferred calls: sound for every program of the model. No condition.
-/
import Derived.Test.YtipmnephldlfgaaGreatDoorPb
import Derived.Orders
import Derived.RangeFuncIn
import Derived.RangeFuncLeaves
import Derived.RecoverIn
import Derived.OrdersIn

/- Entering a function; what it hands back. -/
namespace Go.Pv
variable {P : Program}

/-- v' says no more than v. -/
def Weak (v v' : VVal) : Prop := ∀ G x, VRel G v x → VRel G v' x
def Weaks (v v' : List VVal) : Prop := ∀ G x, VRels G v x → VRels G v' x

theorem Weak.refl (v : VVal) : Weak v v := fun _ _ h => h
theorem Weak.undef (v : VVal) : Weak v .undef := fun _ _ _ => by simp only [VRel]
theorem Weaks.nil : Weaks [] [] := fun _ _ h => h
theorem Weaks.refl (v : List VVal) : Weaks v v := fun _ _ h => h
theorem Weaks.cons {v v' : VVal} {l l' : List VVal} (h : Weak v v') (k : Weaks l l') : Weaks (v :: l) (v' :: l') := fun G x hx => by
  simp only [VRels] at hx ⊢
  obtain ⟨y, ys, rfl, h1, h2⟩ := hx
  exact ⟨y, ys, rfl, h G y h1, k G ys h2⟩
theorem Weak.agg {l l' : List VVal} (h : Weaks l l') : Weak (.agg l) (.agg l') := fun G x hx => by
  simp only [VRel] at hx ⊢
  obtain ⟨c, rfl, h1, h2⟩ := hx
  exact ⟨c, rfl, h G _ h1, h2⟩
theorem Weak.tuple {l l' : List VVal} (h : Weaks l l') : Weak (.tuple l) (.tuple l') := fun G x hx => by
  simp only [VRel] at hx ⊢
  obtain ⟨c, rfl, h1⟩ := hx
  exact ⟨c, rfl, h G _ h1⟩
theorem Weak.iface {t : TypeId} {v v' : VVal} (h : Weak v v') : Weak (.iface t v) (.iface t v') := fun G x hx => by
  simp only [VRel] at hx ⊢
  obtain ⟨c, rfl, h1⟩ := hx
  exact ⟨c, rfl, h G _ h1⟩

def Cap.forget : Cap → Cap
  | .tok _ _ => .any
  | c => c

mutual
/-- A value, with nothing said of capacities that a family knows. -/
def forget : VVal → VVal
  | .slice cells len cap => .slice (forgets cells) len cap.forget
  | .agg cs => .agg (forgets cs)
  | .tuple cs => .tuple (forgets cs)
  | .iface t v => .iface t (forget v)
  | v => v
def forgets : List VVal → List VVal
  | [] => []
  | v :: vs => forget v :: forgets vs
end

theorem forgets_length : ∀ l : List VVal, (forgets l).length = l.length
  | [] => rfl
  | _ :: l => by simp [forgets, forgets_length l]

theorem Weaks.length {l l' : List VVal} (h : Weaks l l') {G : Ghost} {x : List Value} (hx : VRels G l x) : l'.length = l.length := by
  have := (h G x hx).length
  have := hx.length
  omega

theorem Weak.slice {l l' : List VVal} (len : Nat) (cap : Cap) (h : Weaks l l') (hl : l'.length = l.length) : Weak (.slice l len cap) (.slice l' len cap.forget) := fun G x hx => by
  simp only [VRel] at hx ⊢
  obtain ⟨a, rcap, rfl, h1, h2, h3⟩ := hx
  refine ⟨a, rcap, rfl, h1, ?_, ?_⟩
  · cases cap with
    | tok t sz => trivial
    | any => trivial
    | nil => exact h2
    | exact c => exact h2
  rcases h3 with rfl | ⟨b, off, rc, total, e, hk, h4, h5⟩
  · exact .inl (List.eq_nil_of_length_eq_zero (by simpa using hl))
  · exact .inr ⟨b, off, rc, total, e, hk, by omega, by rw [hl]; exact h _ _ h5⟩

mutual
theorem forget_weak : ∀ v : VVal, Weak v (forget v)
  | .slice cells len cap => by simp only [forget]; exact Weak.slice len cap (forgets_weak cells) (forgets_length cells)
  | .agg cs => by simp only [forget]; exact Weak.agg (forgets_weak cs)
  | .tuple cs => by simp only [forget]; exact Weak.tuple (forgets_weak cs)
  | .iface t v => by simp only [forget]; exact Weak.iface (forget_weak v)
  | .undef => Weak.refl _
  | .bool _ => Weak.refl _
  | .int _ _ => Weak.refl _
  | .str _ => Weak.refl _
  | .nilp => Weak.refl _
  | .ptr _ _ => Weak.refl _
  | .lptr _ _ _ => Weak.refl _
  | .iptr _ => Weak.refl _
  | .mslice _ _ _ _ => Weak.refl _
  | .map _ => Weak.refl _
  | .func _ _ _ => Weak.refl _
  | .nilFunc => Weak.refl _
  | .nilIface => Weak.refl _
  | .yieldv _ => Weak.refl _
  | .rslice _ _ _ => Weak.refl _
  | .gptr _ _ _ _ => Weak.refl _
  | .fptr _ _ => Weak.refl _
theorem forgets_weak : ∀ l : List VVal, Weaks l (forgets l)
  | [] => Weaks.nil
  | v :: l => by simp only [forgets]; exact Weaks.cons (forget_weak v) (forgets_weak l)
end

/-- A heap of which something was forgotten. -/
structure HSub (h' h : VHeap) : Prop where
  ob : ∀ o x, h'.ob o = some x → h.ob o = some x
  fm : ∀ t n, h'.fm t = some n → h.fm t = some n
  bd : ∀ n, h'.bd = some n → h.bd = some n
  gr : ∀ t vs, h'.gr t = some vs → h.gr t = some vs
  ty : ∀ k e, h'.ty k = some e → h.ty k = some e

theorem HSub.refl (h : VHeap) : HSub h h := ⟨fun _ _ e => e, fun _ _ e => e, fun _ e => e, fun _ _ e => e, fun _ _ e => e⟩
theorem HSub.trans {a b c : VHeap} (h : HSub a b) (k : HSub b c) : HSub a c := ⟨fun o x e => k.ob o x (h.ob o x e), fun t n e => k.fm t n (h.fm t n e), fun n e => k.bd n (h.bd n e), fun t vs e => k.gr t vs (h.gr t vs e), fun t q e => k.ty t q (h.ty t q e)⟩

theorem HSub.mem {h' h : VHeap} (s : HSub h' h) : VMem.Sub h'.mem h.mem := ⟨s.ob, fun _ _ _ e => e, s.fm, s.bd, s.gr, s.ty⟩

theorem VCalls.weak {f : FuncId} {args : List VVal} {h : VHeap} {Q Q' : VOut → VHeap → Prop} (k : VCalls P f args h Q)
    (hr : ∀ v h', Q (.ret v) h' → ∃ v' h'', Weak v v' ∧ HSub h'' h' ∧ Q' (.ret v') h'') (hp : ∀ v h', Q (.panic v) h' → ∃ v' h'', Weak v v' ∧ HSub h'' h' ∧ Q' (.panic v') h'') : VCalls P f args h Q' := by
  intro G w rargs hm hargs
  have up : ∀ e w', CallPost h G w Q e w' → CallPost h G w Q' e w' := by
    rintro e w' ⟨G', h', out, hq, he, m, t⟩
    cases out with
    | ret v =>
      obtain ⟨v', h'', h1, h2, h3⟩ := hr v h' hq
      cases e with
      | returned v0 => exact ⟨G', h'', .ret v', h3, h1 _ _ he, m.sub h2.mem, t.trans hm (Trans.sub _ _ h2.mem)⟩
      | _ => exact he.elim
    | panic v =>
      obtain ⟨v', h'', h1, h2, h3⟩ := hp v h' hq
      cases e with
      | panicked c =>
        cases c with
        | nil => exact he.elim
        | cons x l =>
          cases l with
          | nil => exact ⟨G', h'', .panic v', h3, ⟨h1 _ _ he.1, he.2⟩, m.sub h2.mem, t.trans hm (Trans.sub _ _ h2.mem)⟩
          | cons _ _ => exact he.elim
      | _ => exact he.elim
  rcases k G w rargs hm hargs with ⟨h1, h2⟩ | ⟨v', w', h1, h2⟩
  · exact .inl ⟨h1, h2.mono up⟩
  · exact .inr ⟨v', w', h1, up _ _ h2⟩

/-- What a function hands back, off its result variables. -/
def vresult (P : Program) (st : VSt) : ResultVar → Option VVal
  | .tmp t => some (st.tm t)
  | .cell a t => match layoutOf P t, st.cellsAt (st.tm a) with
    | some i, some (vs, off) => vpart i.agg i.size vs off
    | _, _ => none

def vresultList (P : Program) (st : VSt) : List ResultVar → Option (List VVal)
  | [] => some []
  | r :: rs => match vresult P st r, vresultList P st rs with
    | some v, some vs => some (v :: vs)
    | _, _ => none

def vresults (P : Program) (fn : Func) (st : VSt) : Option VVal :=
  match vresultList P st fn.results.toList with
  | some [v] => some v
  | some vs => some (.tuple vs)
  | none => none

def rvRead (tmps : Array Value) : ResultVar → Sem Value
  | .tmp t => pure (tmps.getD t undef)
  | .cell x t => do loadVar t (← asAddr (tmps.getD x undef))

theorem results_eq (fn : Func) (tmps : Array Value) : results fn tmps = (do
    let vs ← fn.results.mapM (rvRead tmps)
    pure (if h : vs.size = 1 then vs[0] else .tuple vs)) := by
  unfold results
  rfl

theorem vresult_sound {st : VSt} {G : Ghost} {w : World} {a : Act} (hm : MemOk st.mem G w) (ha : ActRel st G a) {r : ResultVar} {v : VVal} (h : vresult P st r = some v) :
    Gives P G w (rvRead a.tmps r) v := by
  cases r with
  | tmp t => simp [vresult] at h; subst h; exact ⟨_, rfl, ha.tm t⟩
  | cell x t =>
    simp only [vresult] at h
    split at h
    · next i vs off hi hc =>
      obtain ⟨v', h1, h2⟩ := vload_sound (P := P) hm hi (ha.tm x) hc h
      refine ⟨v', ?_, h2⟩
      have hp : ∃ ad, a.tmps.getD x undef = .pointer (some ad) := by
        have hr := ha.tm x
        unfold VSt.cellsAt at hc
        split at hc
        · next he => rw [he] at hr; simp only [VRel] at hr; obtain ⟨_, _, e⟩ := hr; exact ⟨_, e⟩
        · next he => rw [he] at hr; simp only [VRel] at hr; obtain ⟨_, _, e⟩ := hr; exact ⟨_, e⟩
        · next he => rw [he] at hr; simp only [VRel] at hr; obtain ⟨_, _, _, _, _, e, _⟩ := hr; exact ⟨_, e⟩
        · next he => rw [he] at hr; simp only [VRel] at hr; obtain ⟨_, e, _⟩ := hr; exact ⟨_, e⟩
        · cases hc
      obtain ⟨ad, hp⟩ := hp
      rw [hp] at h1
      simpa [rvRead, hp, Instr.loadAt, Instr.sureAddr, asAddr] using h1
    · cases h

theorem vresultList_sound {st : VSt} {G : Ghost} {w : World} {a : Act} (hm : MemOk st.mem G w) (ha : ActRel st G a) : ∀ {rs : List ResultVar} {vs : List VVal}, vresultList P st rs = some vs →
    ∃ us : List Value, (rs.mapM (rvRead a.tmps)).run P w = .ok us w ∧ VRels G vs us
  | [], vs, h => by simp [vresultList] at h; subst h; exact ⟨[], rfl, by simp [VRels]⟩
  | r :: rs, vs, h => by
    simp only [vresultList] at h
    split at h
    · next v vs' h1 h2 =>
      simp at h; subst h
      obtain ⟨u, g1, g2⟩ := vresult_sound (P := P) hm ha h1
      obtain ⟨us, g3, g4⟩ := vresultList_sound hm ha h2
      refine ⟨u :: us, ?_, by simp only [VRels]; exact ⟨_, _, rfl, g2, g4⟩⟩
      simp only [List.mapM_cons, Sem.run_bind, g1, Result.andThen_ok, g3, Sem.run_pure]
    · cases h

theorem vresults_sound {st : VSt} {G : Ghost} {w : World} {a : Act} (hm : MemOk st.mem G w) (ha : ActRel st G a) {fn : Func} {v : VVal} (h : vresults P fn st = some v) : Gives P G w (results fn a.tmps) v := by
  unfold vresults at h
  have key : ∀ vs, vresultList P st fn.results.toList = some vs → (match vs with | [v] => some v | vs => some (.tuple vs)) = some v → Gives P G w (results fn a.tmps) v := by
    intro vs hvs hv
    obtain ⟨us, h1, h2⟩ := vresultList_sound (P := P) hm ha hvs
    have hlen := h2.length
    have hrun : (fn.results.mapM (rvRead a.tmps)).run P w = .ok us.toArray w := by
      rw [Array.mapM_eq_mapM_toList]
      simp only [Sem.run_map, h1, Result.andThen_ok]
    unfold Gives
    rw [results_eq]
    split at hv
    · next v1 =>
      simp at hv; subst hv
      simp only [VRels] at h2
      obtain ⟨u, _, rfl, h3, rfl⟩ := h2
      refine ⟨u, ?_, h3⟩
      simp only [Sem.run_bind, hrun]
      simp
    · next hne =>
      simp at hv; subst hv
      refine ⟨.tuple us.toArray, ?_, by simp only [VRel]; exact ⟨_, rfl, by simpa using h2⟩⟩
      have hne1 : us.length ≠ 1 := by
        intro q
        rw [← hlen] at q
        cases vs with
        | nil => simp at q
        | cons x l =>
          cases l with
          | nil => exact hne x rfl
          | cons _ _ => simp at q
      simp only [Sem.run_bind, hrun]
      simp [hne1]
  split at h
  · next v' h1 => exact key _ h1 (by simpa using h)
  · next vs h1 h2 => 
    refine key _ h2 ?_
    split
    · next v' => exact absurd rfl (h1 v')
    · simpa using h
  · cases h

/-- The state in which a body begins. -/
def VSt.start (fn : Func) (args : List VVal) (h : VHeap) : VSt := { n := fn.ntmps, tm := fun k => args.getD k .undef, bx := fun _ => none, h := h }

/-- What is owed where a body is left. -/
def VEnd (P : Program) (fn : Func) (Q : VOut → VHeap → Prop) : VExit → VSt → Prop
  | .normal, st | .ret, st => ∃ v, vresults P fn st = some v ∧ Q (.ret v) st.h
  | .panic v, st => Q (.panic v) st.h
  | _, _ => False

theorem callFunc_enter {f : FuncId} {fn : Func} {c : Code} (hf : P.funcs[f]? = some fn) (hb : fn.body = some c) (hn : (fn.name == "runtime.NumGoroutine") = false) (args : Array Value) (w : World) : (callFunc f args).run P w = .ok (.enter f args) w := by
  have hn' : fn.name ≠ "runtime.NumGoroutine" := by simpa using hn
  simp [callFunc, hf, hb, hn']

theorem vcalls_of {f : FuncId} {fn : Func} {c : Code} {args : List VVal} {h : VHeap} {Q : VOut → VHeap → Prop} (hf : P.funcs[f]? = some fn) (hb : fn.body = some c) (hn : (fn.name == "runtime.NumGoroutine") = false) (hl : args.length ≤ fn.ntmps)
    (hw : VW P c (VEnd P fn Q) (VSt.start fn args h)) : VCalls P f args h Q := by
  intro G w rargs hm hr
  have hlen := hr.length
  simp only [Array.length_toList] at hlen
  refine .inl ⟨callFunc_enter hf hb hn rargs w, calls_of_wp hf hb ?_⟩
  have hact : ActRel (VSt.start fn args h) G { tmps := rargs ++ Array.replicate (fn.ntmps - rargs.size) undef, defers := [] } := by
    refine ⟨by simp [VSt.start]; omega, fun k => ?_⟩
    simp only [VSt.start, Array.getD_eq_getD_getElem?]
    by_cases hk : k < args.length
    · obtain ⟨u, hu, hru⟩ := hr.get (List.getElem?_eq_getElem hk)
      have hu' : rargs[k]? = some u := by simpa using hu
      rw [Array.getElem?_append_left (by omega), hu']
      simpa [List.getD, List.getElem?_eq_getElem hk] using hru
    · simp [List.getD, List.getElem?_eq_none (Nat.le_of_not_lt hk), VRel]
  have hm0 : MemOk (VSt.start fn args h).mem G w := hm
  refine wp_mono (hw G w _ hm0 hact) ?_
  rintro e a' w' ⟨G', st', e', q, he, m, r, d, t⟩
  have hsub : VMem.Sub st'.h.mem st'.mem := heap_sub st'
  have fin : ∀ v : VVal, vresults P fn st' = some v → Q (.ret v) st'.h → a'.defers = [] ∧ ∃ v', (results fn a'.tmps).run P w' = .ok v' w' ∧ CallPost h G w Q (.returned v') w' := by
    intro v hv hq
    obtain ⟨v', h1, h2⟩ := vresults_sound (P := P) m r hv
    exact ⟨d, v', h1, G', st'.h, .ret v, hq, h2, m.sub hsub, Trans.trans (M1 := st'.mem) hm t (Trans.sub _ _ hsub)⟩
  cases e <;> cases e' <;> simp only [ExitRel] at he <;> simp only [VEnd] at q <;> simp only [bodyPost]
  · obtain ⟨v, hv, hq⟩ := q; exact fin v hv hq
  · obtain ⟨v, hv, hq⟩ := q; exact fin v hv hq
  · next chain v =>
    refine ⟨d, G', st'.h, .panic v, q, ?_, m.sub hsub, Trans.trans (M1 := st'.mem) hm t (Trans.sub _ _ hsub)⟩
    cases chain with
    | nil => exact he.elim
    | cons x l =>
      cases l with
      | nil => exact he
      | cons _ _ => exact he.elim

end Go.Pv

/- An operation looks at its operands alone. -/
namespace Go.Pv
variable {P : Program}

def VSt.withTm (st : VSt) (tm : Nat → VVal) : VSt := { st with tm := tm }

def mixTm (T : Nat → VVal) (dst : Option Nat) (tm : Nat → VVal) : Nat → VVal := fun t => if dst = some t then tm t else T t

/-- The state s, its slots but dst's as in T. -/
def remix (T : Nat → VVal) (dst : Option Nat) (s : VSt) : VSt := { s with tm := mixTm T dst s.tm }

def SameEv (st : VSt) (tm2 : Nat → VVal) (o : Op) : Prop := ∀ t, .tmp t ∈ o.operands → tm2 t = st.tm t

theorem ev_same {st : VSt} {tm2 : Nat → VVal} {x : Operand} (h : ∀ t, x = .tmp t → tm2 t = st.tm t) : (st.withTm tm2).ev x = st.ev x := by
  cases x with
  | tmp t => exact h t rfl
  | const v => rfl
  | global g => rfl
  | func f => rfl

theorem evs_same {st : VSt} {tm2 : Nat → VVal} : ∀ {l : List Operand}, (∀ t, .tmp t ∈ l → tm2 t = st.tm t) → (st.withTm tm2).evs l = st.evs l
  | [], _ => rfl
  | x :: l, h => by
    simp only [VSt.evs]
    rw [ev_same (fun t e => h t (by simp [e])), evs_same (fun t ht => h t (by simp [ht]))]

theorem parts_same {st : VSt} {tm2 : Nat → VVal} : ∀ {l : List (Nat × Operand)}, (∀ t, .tmp t ∈ l.map (·.2) → tm2 t = st.tm t) → (st.withTm tm2).parts l = st.parts l
  | [], _ => rfl
  | (i, x) :: l, h => by
    simp only [VSt.parts]
    rw [ev_same (fun t e => h t (by simp [e])), parts_same (fun t ht => h t (by simp only [List.map_cons, List.mem_cons]; exact .inr ht))]

theorem light_same {st : VSt} {tm2 : Nat → VVal} {L : TypeId → Option TInfo} {o : Op} (h : SameEv st tm2 o) : (st.withTm tm2).light L o = st.light L o := by
  unfold SameEv at h
  unfold VSt.light
  have hb : (st.withTm tm2).bx = st.bx := rfl
  have hh : (st.withTm tm2).h = st.h := rfl
  have hca : ∀ v, (st.withTm tm2).cellsAt v = st.cellsAt v := fun v => by cases v <;> rfl
  have hbd : ∀ x : Option Operand, (∀ t, x = some (.tmp t) → tm2 t = st.tm t) → (st.withTm tm2).bound? x = st.bound? x := fun x hx => by
    cases x with
    | none => rfl
    | some y => simp only [VSt.bound?]; rw [ev_same (fun t e => hx t (by rw [e]))]
  split
  case h_1 => rw [ev_same fun t e => h t (by simp [Op.operands, e])]
  case h_2 => rw [ev_same fun t e => h t (by simp [Op.operands, e])]
  case h_3 c a b => rw [ev_same (x := c) fun t e => h t (by simp [Op.operands, e]), ev_same (x := a) fun t e => h t (by simp [Op.operands, e]), ev_same (x := b) fun t e => h t (by simp [Op.operands, e])]
  case h_4 => rw [ev_same fun t e => h t (by simp [Op.operands, e]), hca]
  case h_5 => rw [ev_same fun t e => h t (by simp [Op.operands, e])]
  case h_6 => rw [ev_same fun t e => h t (by simp [Op.operands, e])]
  case h_7 t x ix => rw [ev_same (x := x) fun t e => h t (by simp [Op.operands, e]), ev_same (x := ix) fun t e => h t (by simp [Op.operands, e])]
  case h_8 => rw [ev_same fun t e => h t (by simp [Op.operands, e])]
  case h_9 t x ix => rw [ev_same (x := x) fun t e => h t (by simp [Op.operands, e]), ev_same (x := ix) fun t e => h t (by simp [Op.operands, e])]
  case h_10 op t x y _ => rw [ev_same (x := x) fun t e => h t (by simp [Op.operands, e]), ev_same (x := y) fun t e => h t (by simp [Op.operands, e])]
  case h_11 => rw [ev_same fun t e => h t (by simp [Op.operands, e])]
  case h_12 => rw [ev_same fun t e => h t (by simp [Op.operands, e]), hh]
  case h_13 => rw [ev_same fun t e => h t (by simp [Op.operands, e])]
  case h_14 fn first captured =>
    rw [evs_same (l := first.toList) fun t e => h t (by simp only [Op.operands, Array.mem_append]; exact .inl (by simpa using e)), evs_same (l := captured.toList) fun t e => h t (by simp only [Op.operands, Array.mem_append]; exact .inr (by simpa using e))]
  case h_15 => rw [ev_same fun t e => h t (by simp [Op.operands, e])]
  case h_16 t parts => rw [parts_same fun t e => h t (by simpa [Op.operands] using e)]
  case h_17 t n parts => rw [parts_same fun t e => h t (by simpa [Op.operands] using e)]
  case h_18 t x lo hi mx =>
    rw [ev_same (x := x) fun t e => h t (by simp [Op.operands, e]), hbd lo fun t e => h t (by simp [Op.operands, e]), hbd hi fun t e => h t (by simp [Op.operands, e]), hbd mx fun t e => h t (by simp [Op.operands, e])]
  case h_19 t m k ok => rw [ev_same (x := m) fun t e => h t (by simp [Op.operands, e]), ev_same (x := k) fun t e => h t (by simp [Op.operands, e]), hh]
  case h_20 => rw [ev_same fun t e => h t (by simp [Op.operands, e])]
  case h_21 args argTypes =>
    split
    · next x t e1 _ => rw [ev_same fun t e => h t (by simp only [Op.operands, Call.operands]; subst e; simp; exact Array.mem_toList_iff.1 (by rw [e1]; simp)), hh]
    · rfl
  case h_22 args argTypes =>
    split
    · next x t e1 _ => rw [ev_same fun t e => h t (by simp only [Op.operands, Call.operands]; subst e; simp; exact Array.mem_toList_iff.1 (by rw [e1]; simp))]
    · rfl
  case h_23 args argTypes =>
    split
    · next x e1 => rw [ev_same fun t e => h t (by simp only [Op.operands, Call.operands]; subst e; simp; exact Array.mem_toList_iff.1 (by rw [e1]; simp))]
    · rfl
  case h_24 args argTypes =>
    split
    · next x n t ts e1 _ =>
      rw [ev_same (x := x) fun t e => h t (by simp only [Op.operands, Call.operands]; subst e; simp; exact Array.mem_toList_iff.1 (by rw [e1]; simp)),
        ev_same (x := n) fun t e => h t (by simp only [Op.operands, Call.operands]; subst e; simp; exact Array.mem_toList_iff.1 (by rw [e1]; simp)), hh]
    · rfl
  case h_25 args argTypes => rw [evs_same fun t e => h t (by simpa [Op.operands, Call.operands] using e)]
  case h_26 args argTypes => rw [evs_same fun t e => h t (by simpa [Op.operands, Call.operands] using e)]
  case h_27 x s => rw [ev_same fun t e => h t (by simp [Op.operands, e]), hh]
  case h_28 => rfl

section
variable {st : VSt} {tm2 : Nat → VVal}

theorem remix_put (s : VSt) (d : Nat) (v : VVal) : remix st.tm (some d) ((s.withTm tm2).put d v) = (s.withTm st.tm).put d v := by
  simp only [remix, VSt.put, VSt.withTm]
  congr 1
  funext t
  unfold mixTm
  by_cases h : t = d
  · subst h; simp
  · rw [if_neg (by simpa using Ne.symm h), upd_ne _ _ h]

theorem remix_none (s : VSt) : remix st.tm none (s.withTm tm2) = s.withTm st.tm := by
  rfl

theorem VPut.remix {s : VSt} {dst : Option Nat} {v : VVal} {next : VSt → Prop} (h : VPut (s.withTm st.tm) dst v next) : VPut (s.withTm tm2) dst v (fun s2 => next (remix st.tm dst s2)) := by
  cases dst with
  | none => simpa only [VPut, remix_none] using h
  | some d => exact ⟨h.1, by show next (Pv.remix st.tm (some d) ((s.withTm tm2).put d v)); rw [remix_put]; exact h.2⟩

theorem VSt.withTm_self (st : VSt) : st.withTm st.tm = st := rfl

theorem VPut.remix' {dst : Option Nat} {v : VVal} {next : VSt → Prop} (h : VPut st dst v next) : VPut (st.withTm tm2) dst v (fun s2 => next (Pv.remix st.tm dst s2)) := VPut.remix (s := st) h

theorem VNew.remix {esc : Nat → Bool} {dst : Option Nat} {E : TypeId} {cs : List VVal} {next : VSt → Prop} (h : VNew esc st dst E cs next) : VNew esc (st.withTm tm2) dst E cs (fun s2 => next (Pv.remix st.tm dst s2)) := by
  cases dst with
  | none => exact h
  | some d =>
    unfold VNew at h ⊢
    refine ⟨h.1, ?_⟩
    obtain ⟨_, h⟩ := h
    by_cases q : esc d = true
    · rw [if_pos q] at h ⊢
      intro o ho hfr
      show next (Pv.remix st.tm (some d) ((((st.setOb o (.cells cs)).setTy o E).bump.withTm tm2).put d _))
      rw [remix_put]
      exact h o ho hfr
    · rw [if_neg q] at h ⊢
      intro v hfr
      show next (Pv.remix st.tm (some d) (((st.setBx d v cs).bump.withTm tm2).put d _))
      rw [remix_put]
      exact h v hfr

theorem VStep.remix {esc : Nat → Bool} {o : Oper} {next : VSt → Prop} {Qp : VVal → VSt → Prop} (h : VStep P esc st o next Qp) (he : SameEv st tm2 o.op) :
    VStep P esc (st.withTm tm2) o (fun s2 => next (Pv.remix st.tm o.dst s2)) (fun v s2 => Qp v (Pv.remix st.tm none s2)) := by
  have hl := light_same (L := layoutOf P) he
  obtain ⟨dst, op, type, pos, after, guard⟩ := o
  have ev1 : ∀ x, (∀ t, x = .tmp t → .tmp t ∈ op.operands) → (st.withTm tm2).ev x = st.ev x := fun x hx => ev_same fun t e => he t (hx t e)
  unfold VStep at h ⊢
  simp only at h ⊢
  split at h
  case h_1 t p x =>
    rw [ev1 p (fun t e => by simp [Op.operands, e]), ev1 x (fun t e => by simp [Op.operands, e])]
    unfold VStore at h ⊢
    split at h
    · next i cs h1 h2 =>
      simp only
      obtain ⟨hc, h⟩ := h
      refine ⟨hc, ?_⟩
      split at h
      · split at h
        · next ho =>
          rw [show (st.withTm tm2).h.ob _ = _ from ho]
          exact ⟨h.1, VPut.remix (s := VSt.setOb st _ _) h.2⟩
        · exact h.elim
      · split at h
        · next hb =>
          rw [show (st.withTm tm2).bx _ = _ from hb]
          exact ⟨h.1, h.2.1, VPut.remix (s := VSt.setBx st _ _ _) h.2.2⟩
        · exact h.elim
      · split at h
        · next hb =>
          rw [show (st.withTm tm2).h.gr _ = _ from hb]
          exact ⟨h.1, h.2.1, VPut.remix (s := VSt.setGr st _ _) h.2.2⟩
        · exact h.elim
      · exact h.elim
    · exact h.elim
  case h_2 t =>
    split at h
    · split at h
      · exact VNew.remix h
      · exact h.elim
    · exact h.elim
  case h_3 t x =>
    rw [ev1 x (fun t e => by simp [Op.operands, e])]
    split at h
    · exact VNew.remix h
    · exact h.elim
  case h_4 t => exact fun q hq hfr => VPut.remix (s := (VSt.setOb st _ _).bump) (h q hq hfr)
  case h_5 t m k v =>
    rw [ev1 m (fun t e => by simp [Op.operands, e]), ev1 k (fun t e => by simp [Op.operands, e]), ev1 v (fun t e => by simp [Op.operands, e])]
    unfold VMapPut at h ⊢
    split at h
    · simp only
      split at h
      · next h1 h2 =>
        rw [show (st.withTm tm2).h.ob _ = _ from h2]
        simp only [h1]
        split at h
        · refine ⟨h.1, ?_⟩
          obtain ⟨_, h⟩ := h
          split at h
          · exact VPut.remix (s := VSt.setOb st _ _) h
          · exact VPut.remix (s := VSt.setOb st _ _) h
          · exact h.elim
        · exact h.elim
      · exact h.elim
    · exact h.elim
  case h_6 t m k v =>
    rw [ev1 m (fun t e => by simp [Op.operands, e]), ev1 k (fun t e => by simp [Op.operands, e]), ev1 v (fun t e => by simp [Op.operands, e])]
    unfold VMapPut at h ⊢
    split at h
    · simp only
      split at h
      · next h1 h2 =>
        rw [show (st.withTm tm2).h.ob _ = _ from h2]
        simp only [h1]
        split at h
        · refine ⟨h.1, ?_⟩
          obtain ⟨_, h⟩ := h
          split at h
          · exact VPut.remix (s := VSt.setOb st _ _) h
          · exact VPut.remix (s := VSt.setOb st _ _) h
          · exact h.elim
        · exact h.elim
      · exact h.elim
    · exact h.elim
  case h_7 t l c =>
    rw [ev1 l (fun t e => by simp [Op.operands, e]), ev1 c (fun t e => by simp [Op.operands, e])]
    unfold VMakeSlice at h ⊢
    split at h
    · split at h
      · split at h
        · refine ⟨h.1, h.2.1, h.2.2.1, h.2.2.2.1, ?_⟩
          obtain ⟨_, _, _, _, h⟩ := h
          split at h
          · exact ⟨h.1, fun q hq hfr => VPut.remix (s := ((VSt.setOb st _ _).setTy _ _).bump) (h.2 q hq hfr)⟩
          · exact h.elim
        · exact h.elim
      · exact h.elim
    · exact h.elim
  case h_8 t x =>
    rw [ev1 x (fun t e => by simp [Op.operands, e])]
    unfold VRange at h ⊢
    split at h
    · split at h
      · exact fun q hq hfr => VPut.remix (s := (VSt.setOb st _ _).bump) (h q hq hfr)
      · next hs =>
        split at h
        · next ho =>
          rw [show (st.withTm tm2).h.ob _ = _ from ho]
          exact fun q hq hfr => VPut.remix (s := (VSt.setOb st _ _).bump) (h q hq hfr)
        · exact h.elim
      · exact h.elim
    · exact h.elim
  case h_9 x =>
    rw [ev1 x (fun t e => by simp [Op.operands, e])]
    split at h
    · rw [remix_none]; exact h
    · exact h.elim
  case h_10 args argTypes =>
    split at h
    · next s x t xt e1 e2 =>
      rw [ev1 s (fun t e => by simp only [Op.operands, Call.operands]; subst e; simp; exact Array.mem_toList_iff.1 (by rw [e1]; simp)), ev1 x (fun t e => by simp only [Op.operands, Call.operands]; subst e; simp; exact Array.mem_toList_iff.1 (by rw [e1]; simp))]
      refine h.imp (fun h => ?_) (fun h => ?_)
      · unfold VAppend at h ⊢
        split at h
        · split at h
          · split at h
            · refine ⟨h.1, ?_⟩
              obtain ⟨_, h⟩ := h
              split at h
              · refine ⟨h.1, h.2.1, h.2.2.1, h.2.2.2.1, ?_⟩
                obtain ⟨_, _, _, _, h⟩ := h
                split at h
                · next q => rw [if_pos q]; exact VPut.remix' h
                · next q =>
                  rw [if_neg q]
                  refine ⟨h.1, h.2.1, ?_⟩
                  obtain ⟨_, _, h⟩ := h
                  split at h
                  · exact ⟨h.1, fun q hq hfr => VPut.remix (s := ((VSt.setFm st _ _).setTy _ _).bump) (h.2 q hq hfr)⟩
                  · exact ⟨h.1, h.2.1, h.2.2.1, VPut.remix (s := VSt.setFm st _ _) h.2.2.2⟩
                  · exact fun q hq hfr => VPut.remix (s := ((VSt.setFm st _ _).setTy _ _).bump) (h q hq hfr)
                  · exact h.elim
              · exact h.elim
            · exact h.elim
          · exact h.elim
        · exact h.elim
      · unfold VGrow at h ⊢
        split at h
        · split at h
          · split at h
            · refine ⟨h.1, ?_⟩
              obtain ⟨_, h⟩ := h
              split at h
              · refine ⟨h.1, h.2.1, h.2.2.1, h.2.2.2.1, ?_⟩
                obtain ⟨_, _, _, _, h⟩ := h
                split at h
                · exact ⟨h.1, h.2.1, fun q h1 h2 h3 => VPut.remix (s := ((VSt.setGr st _ _).setTy _ _).bump) (h.2.2 q h1 h2 h3)⟩
                · refine ⟨h.1, h.2.1, h.2.2.1, ?_⟩
                  obtain ⟨_, _, _, h⟩ := h
                  split at h
                  · next hg =>
                    rw [show (st.withTm tm2).h.gr _ = _ from hg]
                    exact ⟨h.1, h.2.1, VPut.remix (s := VSt.setGr st _ _) h.2.2⟩
                  · exact h.elim
                · exact h.elim
              · exact h.elim
            · exact h.elim
          · exact h.elim
        · exact h.elim
    · exact h.elim
  case h_11 f args argTypes =>
    rw [ev1 f (fun t e => by simp [Op.operands, Call.operands, e]), evs_same (fun t e => he t (by simp only [Op.operands, Call.operands, Array.mem_append]; exact .inr (by simpa using e)))]
    unfold VCallOp at h ⊢
    split at h
    · refine VCalls.mono h fun out h' hq => ?_
      cases out with
      | ret v => exact VPut.remix (s := VSt.setH st h') hq
      | panic v => simp only at hq ⊢; rw [show (VSt.setH (st.withTm tm2) h') = (VSt.setH st h').withTm tm2 from rfl, remix_none]; exact hq
    · exact h.elim
  case h_12 =>
    have hx : (st.withTm tm2).light (layoutOf P) op = st.light (layoutOf P) op := hl
    split at h
    · next v hv =>
      rw [hv] at hx
      simp only [hx]
      exact VPut.remix' h
    · exact h.elim

end
end Go.Pv

/- New objects whose making may come at any time within a region. -/
namespace Go.Pv
variable {P : Program}

/-- A name that is held for a new object: who makes it, its name, what it will hold. -/
structure Pend where
  i : Nat
  r : Nat
  cs : List VVal
  e : TypeId

def isFloat : Op → Bool
  | .alloc _ | .box _ _ | .makeSlice _ _ _ => true
  | _ => false

def vfloat (P : Program) (st : VSt) (op : Op) : Option (List VVal × TypeId × (Nat → VVal)) :=
  match op with
  | .alloc e => match layoutOf P e with
    | some i => match i.zero.bind vcells with
      | some cs => some (cs, e, fun r => .ptr r 0)
      | none => none
    | none => none
  | .box t x => match vcells (st.ev x) with
    | some cs => some (cs, t, fun r => .ptr r 0)
    | none => none
  | .makeSlice t l c => match layoutOf P t, st.ev l, st.ev c with
    | some i, .int _ ln, .int _ cn => match i.shape with
      | .slice e => match layoutOf P e with
        | some ei => if 0 ≤ ln ∧ ln ≤ cn ∧ cn * ei.bytes ≤ 140737488355328 ∧ cn ≤ 140737488355328 then (match ei.zero.bind vcells with
          | some zs => if zs.length = ei.size then some (repCells zs (cn.toNat * ei.size), e, fun r => .mslice r 0 ln.toNat cn.toNat) else none
          | none => none) else none
        | none => none
      | _ => none
    | _, _, _ => none
  | _ => none

theorem vfloat_same {st : VSt} {tm2 : Nat → VVal} {op : Op} (h : SameEv st tm2 op) : vfloat P (st.withTm tm2) op = vfloat P st op := by
  unfold SameEv at h
  unfold vfloat
  split
  · rfl
  · rw [ev_same fun t e => h t (by simp [Op.operands, e])]
  · next t l c => rw [ev_same (x := l) fun t e => h t (by simp [Op.operands, e]), ev_same (x := c) fun t e => h t (by simp [Op.operands, e])]
  · rfl

theorem vfloat_tm {st st2 : VSt} {op : Op} (h : st2.tm = st.tm) : vfloat P st2 op = vfloat P st op := by
  have hev : ∀ x, st2.ev x = st.ev x := fun x => by cases x <;> simp [VSt.ev, h]
  unfold vfloat
  simp only [hev]

/-- What such an operation really does. -/
theorem float_sound {st : VSt} {G : Ghost} {w : World} {a : Act} (ha : ActRel st G a) {o : Oper} {cs : List VVal} {e : TypeId} {mk : Nat → VVal} (h : vfloat P st o.op = some (cs, e, mk)) :
    ∃ us v, (execOp a.eval o).run P w = .ok (.value v) (w.alloc (.cells us e)) ∧ VRels G cs us.toList ∧ Ones us.toList ∧ ∀ r G', G'.kind w.heap.size = .obj r → VRel G' (mk r) v := by
  obtain ⟨dst, op, type, pos, after, guard⟩ := o
  simp only at h
  unfold vfloat at h
  split at h
  · next t =>
    split at h
    case h_2 => cases h
    rename_i i hi
    split at h
    case h_2 => cases h
    rename_i cs' hcs
    simp at h; obtain ⟨rfl, rfl, rfl⟩ := h
    obtain ⟨inf, z, q1, hz, q2, q3, hzr, hzo⟩ := zero_cells (P := P) G hi hcs
    refine ⟨z.cells, .pointer (some ⟨w.heap.size, 0, none⟩), ?_, hzr G, hzo, fun r G' hk => by simp only [VRel]; exact ⟨_, hk, rfl⟩⟩
    simp [execOp, Instr.alloc, run_zeroValue q1 hz, newVar, newRow]
  · next t x =>
    split at h
    case h_2 => cases h
    rename_i cs' hcs
    simp at h; obtain ⟨rfl, rfl, rfl⟩ := h
    obtain ⟨hr, ho⟩ := (ha.ev x).cells hcs
    refine ⟨(a.eval x).cells, .pointer (some ⟨w.heap.size, 0, none⟩), ?_, hr, ho, fun r G' hk => by simp only [VRel]; exact ⟨_, hk, rfl⟩⟩
    simp [execOp, Instr.box, newVar, newRow]
  · next t l c =>
    have hl := ha.ev l
    have hc := ha.ev c
    split at h
    case h_2 => cases h
    rename_i i k1 ln k2 cn hi hlv hcv
    rw [hlv] at hl
    rw [hcv] at hc
    simp only [VRel] at hl hc
    obtain ⟨inf, d, h1, h2, h3, _, _, _, _⟩ := layout_info hi
    split at h
    case h_2 => cases h
    rename_i e' hsh
    have := shape_slice (h3.symm.trans hsh); subst this
    split at h
    case h_2 => cases h
    rename_i ei he
    split at h
    case isFalse => cases h
    rename_i hb
    obtain ⟨b1, b2, b3, b4⟩ := hb
    split at h
    case h_2 => cases h
    rename_i zs hzb
    split at h
    case isFalse => cases h
    rename_i hzl
    simp at h; obtain ⟨rfl, rfl, rfl⟩ := h
    obtain ⟨einf, z, q1, hz, q2, q3, hzr, hzo⟩ := zero_cells (P := P) G he hzb
    have hwl : IntKind.i64.wrap ln = ln := by unfold IntKind.wrap; simp [IntKind.bits, IntKind.signed]; omega
    have hwc : IntKind.i64.wrap cn = cn := by unfold IntKind.wrap; simp [IntKind.bits, IntKind.signed]; omega
    rw [q3] at b3
    have hrow : ∃ zr : Array Value, ((cn.toNat * einf.size = 0 ∧ zr = #[]) ∨ (cn.toNat * einf.size ≠ 0 ∧ zr = z.cells)) ∧
        VRels G (repCells zs (cn.toNat * ei.size)) ((Array.range (cn.toNat * einf.size)).map (fun i => zr[i % zr.size]!)).toList ∧ Ones ((Array.range (cn.toNat * einf.size)).map (fun i => zr[i % zr.size]!)).toList := by
      rw [q2]
      by_cases q : cn.toNat * einf.size = 0
      · refine ⟨#[], .inl ⟨q, rfl⟩, ?_⟩
        rw [q]
        simp [repCells, VRels, Ones]
      · refine ⟨z.cells, .inr ⟨q, rfl⟩, ?_⟩
        refine repCells_rel (hzr G) hzo _ (fun _ hzs => q ?_)
        subst hzs
        rw [← q2, ← hzl]
        simp
    obtain ⟨zr, hzrun, hzrel, hzones⟩ := hrow
    refine ⟨_, .slice (some ⟨w.heap.size, 0, none⟩) ln.toNat cn.toNat, ?_, hzrel, hzones, fun r G' hk => by simp only [VRel]; exact ⟨_, hk, rfl⟩⟩
    have hsmall : ¬ ((decide (cn < 0) || decide ((einf.bytes : Int) * cn > 2 ^ 48)) = true) := by
      have : (einf.bytes : Int) * cn = cn * einf.bytes := Int.mul_comm _ _
      simp only [Bool.or_eq_true, decide_eq_true_eq]
      rw [this]
      omega
    have hrun : (Instr.makeSlice t (.int k1 ln) (.int k2 cn)).run P w = .ok (.slice (some ⟨w.heap.size, 0, none⟩) ln.toNat cn.toNat) (w.alloc (.cells ((Array.range (cn.toNat * einf.size)).map (fun i => zr[i % zr.size]!)) e')) := by
      simp only [Instr.makeSlice, Sem.run_bind, run_underlying h2, Result.andThen_ok, asInt, asIntOf, Sem.run_pure, run_typeInfo' q1, hwl, hwc]
      rw [if_neg (by simp only [Bool.or_eq_true, decide_eq_true_eq] at hsmall ⊢; omega)]
      simp only [Sem.run_bind, run_askRoom, Result.andThen_ok, run_sizeOf' q1]
      rcases hzrun with ⟨q, rfl⟩ | ⟨q, rfl⟩
      · rw [if_pos q]
        simp [newRow]
      · rw [if_neg q]
        simp [newRow, run_zeroValue q1 hz]
    simp [execOp, hl, hc, hrun]
  · cases h

/-! ### Names held -/

structure PendOk (G0 : Ghost) (M : VMem) (G : Ghost) (w : World) (listed : Bool) (p : Pend) : Prop where
  lo : G0.bound ≤ p.r
  hi : p.r < G.bound
  ob : M.ob p.r = none
  ty : M.ty p.r = none
  fam : G.fam p.r = none
  no : listed = false → ∀ b, G.kind b ≠ .obj p.r
  yes : listed = true → ∃ b us, G.kind b = .obj p.r ∧ w.heap[b]? = some (.cells us p.e (0, 0)) ∧ VRels G p.cs us.toList ∧ Ones us.toList

theorem PendOk.mono {G0 : Ghost} {M M' : VMem} {G G' : Ghost} {w w' : World} {l : Bool} {p : Pend} (h : PendOk G0 M G w l p) (hm : MemOk M G w) (t : Trans M G w M' G' w') : PendOk G0 M' G' w' l p where
  lo := h.lo
  hi := Nat.lt_of_lt_of_le h.hi t.ext.bound
  ob := by
    cases e : M'.ob p.r with
    | none => rfl
    | some x =>
      rcases t.dob p.r (by rw [e]; simp) with q | q
      · exact absurd h.ob q
      · have := h.hi; omega
  ty := by
    cases e : M'.ty p.r with
    | none => rfl
    | some x =>
      rcases t.dty p.r (by rw [e]; simp) with q | q
      · exact absurd h.ty q
      · have := h.hi; omega
  fam := by
    cases e : G'.fam p.r with
    | none => rfl
    | some x =>
      obtain ⟨b, m⟩ := x
      obtain ⟨b0, m0, q, _⟩ := t.ext.fam p.r b m h.hi e
      rw [h.fam] at q; cases q
  no hl b e := by
    rcases t.nob b p.r e with q | q
    · exact h.no hl b q
    · have := h.hi; omega
  yes hl := by
    obtain ⟨b, us, h1, h2, h3, h4⟩ := h.yes hl
    have hlt := hm.lt b (by rw [h1]; simp)
    obtain ⟨k1, k2⟩ := t.keep b hlt (by simp [Acc, h1, h.ob])
    exact ⟨b, us, t.ext.obj _ _ h1, by rw [k1]; exact h2, VRels.mono t.ext h3, h4⟩

section
variable {M : VMem} {G : Ghost} {w : World}

theorem MemOk.ob_free (h : MemOk M G w) : M.ob G.bound = none := by
  cases e : M.ob G.bound with
  | none => rfl
  | some x =>
    have : ∃ b, G.kind b = .obj G.bound := by
      have := h.ob G.bound x e
      cases x with
      | cells vs => obtain ⟨b, _, _, hk, _⟩ := this; exact ⟨b, hk⟩
      | map es cl => obtain ⟨b, _, hk, _⟩ := this; exact ⟨b, hk⟩
      | raw r => obtain ⟨b, hk, _⟩ := this; exact ⟨b, hk⟩
      | loop r => obtain ⟨b, _, hk, _⟩ := this; exact ⟨b, hk⟩
      | iter m s => obtain ⟨b, _, hk, _⟩ := this; exact ⟨b, hk⟩
    obtain ⟨b, hk⟩ := this
    have := h.obB b _ hk
    omega

/-- A name is taken. -/
theorem MemOk.reserve (h : MemOk M G w) : MemOk { M with bd := M.bd.map (· + 1) } { G with bound := G.bound + 1 } w ∧ Trans M G w { M with bd := M.bd.map (· + 1) } { G with bound := G.bound + 1 } w := by
  have hext : Ext G { G with bound := G.bound + 1 } := { Ext.refl G with bound := Nat.le_succ _, fam := fun t b m _ e => ⟨b, m, e, .inl ⟨rfl, rfl⟩⟩ }
  refine ⟨{ h with
    ob := fun o x e => (h.ob o x e).mono hext (fun _ _ => rfl)
    lc := fun s v x e => (h.lc s v x e).mono hext (fun _ _ => rfl)
    obB := fun b o e => Nat.lt_succ_of_lt (h.obB b o e)
    lcB := fun b s v e => Nat.lt_succ_of_lt (h.lcB b s v e)
    fmB := fun t p e => Nat.lt_succ_of_lt (h.fmB t p e)
    grB := fun b t n e => Nat.lt_succ_of_lt (h.grB b t n e)
    bd := h.bump
    gr := fun t vs e => (h.gr t vs e).mono hext (fun _ _ e => e) (fun _ _ _ => rfl)
    ty := fun k e q => by obtain ⟨h1, h2, h3⟩ := h.ty k e q; exact ⟨Nat.lt_succ_of_lt h1, h2, h3⟩ }, { Trans.refl M G w with ext := hext, famold := fun _ _ n _ e => ⟨n, e⟩, nob := fun _ _ e => .inl e }⟩

theorem PendOk.fresh (h : MemOk M G w) {G0 : Ghost} (hb : G0.bound ≤ G.bound) (i : Nat) (cs : List VVal) (e : TypeId) : PendOk G0 { M with bd := M.bd.map (· + 1) } { G with bound := G.bound + 1 } w false ⟨i, G.bound, cs, e⟩ where
  lo := hb
  hi := Nat.lt_succ_self _
  ob := h.ob_free
  ty := by
    cases q : M.ty G.bound with
    | none => rfl
    | some x => have := (h.ty _ _ q).1; omega
  fam := fresh_fam h
  no _ b e := absurd (h.obB b _ e) (Nat.lt_irrefl _)
  yes e := by cases e

/-- The object under a name that was held. -/
theorem MemOk.pushNamed (h : MemOk M G w) {r : Nat} (hr : r < G.bound) (hu : ∀ b, G.kind b ≠ .obj r) (_hob : M.ob r = none) (hty : M.ty r = none) (us : Array Value) (e : TypeId) :
    MemOk M (G.put w.heap.size (.obj r) G.bound) (w.alloc (.cells us e)) := by
  have hfree := h.free_size
  have hext : Ext G (G.put w.heap.size (.obj r) G.bound) := Ext.put hfree (Nat.le_refl _)
  have hlt : ∀ b, G.kind b ≠ .free → b ≠ w.heap.size := fun b hb => by have := h.lt b hb; omega
  have hheap : ∀ b, b < w.heap.size → (w.alloc (.cells us e)).heap[b]? = w.heap[b]? := fun b hb => heap_push_lt w _ hb
  exact
    { ob := fun o x e => (h.ob o x e).mono hext (fun b hb => hheap b (h.lt b (by rw [hb]; simp)))
      lc := fun s v x e => (h.lc s v x e).mono hext (fun b hb => hheap b (h.lt b (by rw [hb]; simp)))
      fm := fun t n e => by
        obtain ⟨b, rc, total, h1, h2, h3⟩ := h.fm t n e
        exact ⟨b, rc, total, h1, by rw [put_kind_ne (hlt b (by rw [h2]; simp))]; exact h2, h3⟩
      rows := fun b rc t e => by
        by_cases hb : b = w.heap.size
        · subst hb; rw [put_kind_same] at e; cases e
        · rw [put_kind_ne hb] at e
          obtain ⟨c, E, fr, h1, q⟩ := h.rows b rc t e
          exact ⟨c, E, fr, by rw [hheap b (h.lt b (by rw [e]; simp))]; exact h1, q⟩
      lt := fun b e => by
        by_cases hb : b = w.heap.size
        · subst hb; simp
        · rw [put_kind_ne hb] at e
          have := h.lt b e
          simp; omega
      obB := fun b o e => by
        by_cases hb : b = w.heap.size
        · subst hb; rw [put_kind_same] at e; cases e; exact hr
        · rw [put_kind_ne hb] at e; exact h.obB b o e
      lcB := fun b s v e => by
        by_cases hb : b = w.heap.size
        · subst hb; rw [put_kind_same] at e; cases e
        · rw [put_kind_ne hb] at e; exact h.lcB b s v e
      fmB := h.fmB
      grB := fun b t n e => by
        by_cases hb : b = w.heap.size
        · subst hb; rw [put_kind_same] at e; cases e
        · rw [put_kind_ne hb] at e; exact h.grB b t n e
      obI := fun b b' o e e' => by
        by_cases hb : b = w.heap.size <;> by_cases hb' : b' = w.heap.size
        · omega
        · subst hb
          rw [put_kind_same] at e; cases e
          rw [put_kind_ne hb'] at e'
          exact absurd e' (hu b')
        · subst hb'
          rw [put_kind_same] at e'; cases e'
          rw [put_kind_ne hb] at e
          exact absurd e (hu b)
        · rw [put_kind_ne hb] at e
          rw [put_kind_ne hb'] at e'
          exact h.obI b b' o e e'
      lcI := fun b b' s v e e' => by
        by_cases hb : b = w.heap.size
        · subst hb; rw [put_kind_same] at e; cases e
        · by_cases hb' : b' = w.heap.size
          · subst hb'; rw [put_kind_same] at e'; cases e'
          · rw [put_kind_ne hb] at e
            rw [put_kind_ne hb'] at e'
            exact h.lcI b b' s v e e'
      fmI := h.fmI
      fmK := fun t b n e => by
        rcases h.fmK t b n e with ⟨rc, total, hk⟩ | ⟨total, hk⟩
        · exact .inl ⟨rc, total, by rw [put_kind_ne (hlt b (by rw [hk]; simp))]; exact hk⟩
        · exact .inr ⟨total, by rw [put_kind_ne (hlt b (by rw [hk]; simp))]; exact hk⟩
      bd := h.bd
      gr := fun t vs e => (h.gr t vs e).mono hext (fun _ _ e => e) (fun b n hb => hheap b (h.lt b (by rw [hb]; simp)))
      ty := fun k q hq => by
        obtain ⟨h1, h2, h3⟩ := h.ty k q hq
        refine ⟨h1, fun b hb => ?_, fun b n hb => ?_⟩
        · by_cases hbb : b = w.heap.size
          · subst hbb
            rw [put_kind_same] at hb; cases hb
            rw [hty] at hq; cases hq
          · rw [put_kind_ne hbb] at hb
            rw [hheap b (h.lt b (by rw [hb]; simp))]
            exact h2 b hb
        · have hlt : b < w.heap.size := by
            rcases h.fmK k b n hb with ⟨_, _, hk⟩ | ⟨_, hk⟩ <;> exact h.lt b (by rw [hk]; simp)
          rw [hheap b hlt]
          exact h3 b n hb }

theorem Trans.andNamed {M0 : VMem} {G0 : Ghost} {w0 : World} (hm : MemOk M G w) (t : Trans M0 G0 w0 M G w) {r : Nat} (hr : G0.bound ≤ r) (us : Array Value) (e : TypeId) :
    Trans M0 G0 w0 M (G.put w.heap.size (.obj r) G.bound) (w.alloc (.cells us e)) where
  ext := t.ext.trans (Ext.put hm.free_size (Nat.le_refl _))
  size := by have := t.size; simp; omega
  dob := t.dob
  dlc := t.dlc
  dfm := t.dfm
  dgr := t.dgr
  keep b hb hn := by
    obtain ⟨k1, k2⟩ := t.keep b hb hn
    have hlt : b < w.heap.size := Nat.lt_of_lt_of_le hb t.size
    exact ⟨(heap_push_lt w _ hlt).trans k1, (put_kind_ne (by omega)).trans k2⟩
  famold := t.famold
  os := t.os
  tape := t.tape
  output := t.output
  nob b o q := by
    by_cases hb : b = w.heap.size
    · subst hb; rw [put_kind_same] at q; cases q; exact .inr hr
    · rw [put_kind_ne hb] at q; exact t.nob b o q
  dty := t.dty

/-- Any other name that is held, behind that. -/
theorem PendOk.other {G0 : Ghost} {l : Bool} {q : Pend} (h : PendOk G0 M G w l q) (hm : MemOk M G w) {r : Nat} (hne : r ≠ q.r) (us : Array Value) (e : TypeId) :
    PendOk G0 M (G.put w.heap.size (.obj r) G.bound) (w.alloc (.cells us e)) l q where
  lo := h.lo
  hi := h.hi
  ob := h.ob
  ty := h.ty
  fam := h.fam
  no hl b k := by
    by_cases hb : b = w.heap.size
    · subst hb; rw [put_kind_same] at k; cases k; exact hne rfl
    · rw [put_kind_ne hb] at k; exact h.no hl b k
  yes hl := by
    obtain ⟨b, vs, h1, h2, h3, h4⟩ := h.yes hl
    have hlt := hm.lt b (by rw [h1]; simp)
    exact ⟨b, vs, by rw [put_kind_ne (by omega)]; exact h1, (heap_push_lt w _ hlt).trans h2, VRels.mono (Ext.put hm.free_size (Nat.le_refl _)) h3, h4⟩

/-- The one that was made. -/
theorem PendOk.made {G0 : Ghost} {l : Bool} {p : Pend} (h : PendOk G0 M G w l p) (hm : MemOk M G w) {us : Array Value} (hr : VRels G p.cs us.toList) (ho : Ones us.toList) :
    PendOk G0 M (G.put w.heap.size (.obj p.r) G.bound) (w.alloc (.cells us p.e)) true p where
  lo := h.lo
  hi := h.hi
  ob := h.ob
  ty := h.ty
  fam := h.fam
  no e := by cases e
  yes _ := ⟨w.heap.size, us, put_kind_same, heap_push_new w _, VRels.mono (Ext.put hm.free_size (Nat.le_refl _)) hr, ho⟩

end

def VSt.land (st : VSt) (p : Pend) : VSt := (st.setOb p.r (.cells p.cs)).setTy p.r p.e
def VSt.lands : VSt → List Pend → VSt
  | st, [] => st
  | st, p :: l => (st.land p).lands l

theorem lands_keep : ∀ (l : List Pend) (st : VSt), (st.lands l).n = st.n ∧ (st.lands l).tm = st.tm ∧ (st.lands l).bx = st.bx
  | [], _ => ⟨rfl, rfl, rfl⟩
  | p :: l, st => lands_keep l (st.land p)

/-- A held name's object comes to be known. -/
theorem land_ok {G0 : Ghost} {st : VSt} {G : Ghost} {w : World} {p : Pend} (hp : PendOk G0 st.mem G w true p) (hm : MemOk st.mem G w) :
    MemOk (st.land p).mem G w ∧ (∀ M0 w0, Trans M0 G0 w0 st.mem G w → Trans M0 G0 w0 (st.land p).mem G w) ∧
    ∀ q l, p.r ≠ q.r → PendOk G0 st.mem G w l q → PendOk G0 (st.land p).mem G w l q := by
  obtain ⟨b, us, h1, h2, h3, h4⟩ := hp.yes rfl
  refine ⟨{ hm with
    ob := fun o x e => ?_
    ty := fun k e q => ?_ }, fun M0 w0 t => { t with dob := fun o e => ?_, dty := fun k e => ?_ }, fun q l hne h => { h with ob := ?_, ty := ?_ }⟩
  · by_cases hq : o = p.r
    · subst hq
      simp only [VSt.land, VSt.setTy, VSt.setOb, VSt.mem, upd_same] at e
      cases e
      exact ⟨b, us, p.e, h1, h2, h3, h4⟩
    · simp only [VSt.land, VSt.setTy, VSt.setOb, VSt.mem, upd_ne _ _ hq] at e
      exact hm.ob o x e
  · by_cases hq : k = p.r
    · subst hq
      simp only [VSt.land, VSt.setTy, VSt.setOb, VSt.mem, upd_same] at q
      cases q
      refine ⟨hp.hi, fun b' hb' => ?_, fun b' n hb' => ?_⟩
      · have := hm.obI b' b _ hb' h1; subst this
        exact ⟨us, _, h2⟩
      · rw [hp.fam] at hb'; cases hb'
    · simp only [VSt.land, VSt.setTy, VSt.setOb, VSt.mem, upd_ne _ _ hq] at q
      exact hm.ty k e q
  · by_cases hq : o = p.r
    · exact .inr (by rw [hq]; exact hp.lo)
    · simp only [VSt.land, VSt.setTy, VSt.setOb, VSt.mem, upd_ne _ _ hq] at e
      exact t.dob o e
  · by_cases hq : k = p.r
    · exact .inr (by rw [hq]; exact hp.lo)
    · simp only [VSt.land, VSt.setTy, VSt.setOb, VSt.mem, upd_ne _ _ hq] at e
      exact t.dty k e
  · simp only [VSt.land, VSt.setTy, VSt.setOb, VSt.mem, upd_ne _ _ (Ne.symm hne)]
    exact h.ob
  · simp only [VSt.land, VSt.setTy, VSt.setOb, VSt.mem, upd_ne _ _ (Ne.symm hne)]
    exact h.ty

theorem lands_ok {G0 : Ghost} {G : Ghost} {w : World} : ∀ (l : List Pend) (st : VSt), MemOk st.mem G w → (∀ p ∈ l, PendOk G0 st.mem G w true p) → l.Pairwise (fun p q => p.r ≠ q.r) →
    MemOk (st.lands l).mem G w ∧ (∀ M0 w0, Trans M0 G0 w0 st.mem G w → Trans M0 G0 w0 (st.lands l).mem G w) ∧
    ∀ q b, (∀ p ∈ l, p.r ≠ q.r) → PendOk G0 st.mem G w b q → PendOk G0 (st.lands l).mem G w b q
  | [], st, hm, _, _ => ⟨hm, fun _ _ t => t, fun _ _ _ h => h⟩
  | p :: l, st, hm, hp, hd => by
    obtain ⟨d1, d2⟩ := List.pairwise_cons.1 hd
    obtain ⟨m1, t1, p1⟩ := land_ok (hp p (by simp)) hm
    obtain ⟨m2, t2, p2⟩ := lands_ok l (st.land p) m1 (fun q hq => p1 q true (d1 q hq) (hp q (by simp [hq]))) d2
    exact ⟨m2, fun M0 w0 t => t2 M0 w0 (t1 M0 w0 t), fun q b hq h => p2 q b (fun r hr => hq r (by simp [hr])) (p1 q b (hq p (by simp)) h)⟩

end Go.Pv

/- A region that draws its order. -/
namespace Go.Pv
variable {P : Program}

structure Stage where
  lights : List Nat
  re : List Nat
  heavy : Option Nat

def bef (ops : Array Oper) (i j : Nat) : Bool := ((Region.before ops).getD i 0).testBit j

def opReads : Op → Bool
  | .load _ _ => true
  | .lookup _ _ _ _ => true
  | .convert _ _ _ => true
  | .next _ _ => true
  | .call _ => true
  | _ => false

/-- Is it to be carried out? -/
def wantV (st : VSt) (ops : Array Oper) (o : Oper) : Option Bool :=
  match o.guard with
  | none => some true
  | some (j, want) => match (ops[j]?).bind (·.dst) with
    | some d => match st.tm d with
      | .bool b => some (b == want)
      | .tuple _ => some false
      | _ => none
    | none => none

def lval (P : Program) (st : VSt) (ops : Array Oper) (o : Oper) : Option VVal :=
  match wantV st ops o with
  | some true => st.light (layoutOf P) o.op
  | some false => some (.tuple [])
  | none => none

def VLights (P : Program) (ops : Array Oper) : List Nat → VSt → List Pend → (VSt → List Pend → Prop) → Prop
  | [], st, pd, K => K st pd
  | i :: is, st, pd, K => match ops[i]? with
    | some o => match isFloat o.op with
      | true => o.guard = none ∧ (match vfloat P st o.op with
        | some (cs, e, mk) => ∀ r, st.Free r → VPut st.bump o.dst (mk r) (fun st' => VLights P ops is st' (⟨i, r, cs, e⟩ :: pd) K)
        | none => False)
      | false => match lval P st ops o with
        | some v => VPut st o.dst v (fun st' => VLights P ops is st' pd K)
        | none => False
    | none => False

def VSt.dst (st : VSt) : Option Nat → VVal
  | some d => st.tm d
  | none => .undef

def VRe (P : Program) (ops : Array Oper) : List Nat → VSt → Prop
  | [], _ => True
  | i :: is, st => (match ops[i]? with
    | some o => lval P st ops o = some (st.dst o.dst)
    | none => False) ∧ VRe P ops is st

def maskTm (ops : Array Oper) (tm : Nat → VVal) : Nat → VVal := fun t => if ops.any (fun o => o.dst == some t) then .undef else tm t

def VGuarded (P : Program) (esc : Nat → Bool) (ops : Array Oper) (o : Oper) (st : VSt) (next : VSt → Prop) (Qp : VVal → VSt → Prop) : Prop :=
  match wantV st ops o with
  | some true => VStep P esc st o next Qp
  | some false => VPut st o.dst (.tuple []) next
  | none => False

/-- What is made ahead of h, and what may be made behind it. -/
def landed (ops : Array Oper) (h : Nat) (pd : List Pend) : List Pend := pd.filter fun p => bef ops h p.i
def waiting (ops : Array Oper) (h : Nat) (pd : List Pend) : List Pend := pd.filter fun p => !bef ops h p.i

def VStages (P : Program) (esc : Nat → Bool) (ops : Array Oper) (Q : VExit → VSt → Prop) : List Stage → VSt → List Pend → Prop
  | [], _, _ => False
  | s :: rest, st, pd => VLights P ops s.lights st pd fun st1 pd1 => VRe P ops s.re st1 ∧ (match s.heavy with
    | none => Q .normal (st1.lands pd1)
    | some h => match ops[h]? with
      | some o => VGuarded P esc ops o (st1.lands (landed ops h pd1)) (fun st2 => VStages P esc ops Q rest st2 (waiting ops h pd1)) (fun v st2 => Q (.panic v) (st2.withTm (maskTm ops st2.tm)))
      | none => False)

/-! ### The plan's check -/

def writersOk (ops : Array Oper) (hv prior : List Nat) (i : Nat) (o : Oper) : Bool :=
  (o.looksAt ops).all fun t => (List.range ops.size).all fun j => ((ops[j]?).bind (·.dst) != some t) || (prior.contains j && bef ops i j) || (hv.contains j && bef ops j i)

def chkLights (ops : Array Oper) (hv dh : List Nat) : List Nat → List Nat → Option (List Nat)
  | dl, [] => some dl
  | dl, i :: is => match ops[i]? with
    | some o => if o.dst.isSome && !dl.contains i && !dh.contains i && !hv.contains i && dh.all (bef ops i ·) && writersOk ops hv (dl ++ dh) i o then chkLights ops hv dh (i :: dl) is else none
    | none => none

def readsAt (ops : Array Oper) (i : Nat) : Bool := match ops[i]? with | some o => opReads o.op | none => false

def headBef (ops : Array Oper) (dh : List Nat) (i : Nat) : Bool := match dh with | h :: _ => bef ops h i | [] => false

def chkStages (ops : Array Oper) (hv : List Nat) : List Nat → List Nat → List Stage → Bool
  | dl, dh, s :: rest =>
    (dl.all fun i => s.re.contains i || !readsAt ops i || headBef ops dh i) &&
    (match chkLights ops hv dh dl s.lights with
    | none => false
    | some dl' => match s.heavy with
      | none => rest.isEmpty && (List.range ops.size).all fun i => dl'.contains i || dh.contains i
      | some h => match ops[h]? with
        | some o => !dl'.contains h && !dh.contains h && dh.all (bef ops h ·) && writersOk ops hv (dl' ++ dh) h o && chkStages ops hv dl' (h :: dh) rest
        | none => false)
  | _, _, [] => false

def edgesOk (ops : Array Oper) : Bool := (List.range ops.size).all fun i => match ops[i]? with
  | some o => o.after.all fun e => !Region.binds .any e || decide (e.on < i)
  | none => true

def dstsOk (ops : Array Oper) : Bool := (List.range ops.size).all fun i => (List.range ops.size).all fun j => i == j || match ops[i]?, ops[j]? with
  | some o, some q => o.dst.isNone || o.dst != q.dst
  | _, _ => true

def planOk (ops : Array Oper) (plan : List Stage) : Bool := edgesOk ops && dstsOk ops && chkStages ops (plan.filterMap (·.heavy)) [] [] plan

/-! ### What comes before what -/

theorem before_prefix (l : List Oper) : ∀ (acc : Array Nat),
    let g := fun (acc : Array Nat) (o : Oper) => acc.push (o.after.foldl (fun s e => if Region.binds .any e then s ||| 2 ^ e.on ||| acc.getD e.on 0 else s) 0)
    (l.foldl g acc).size = acc.size + l.length ∧ (∀ i, i < acc.size → (l.foldl g acc)[i]? = acc[i]?) := by
  induction l with
  | nil => intro acc; simp
  | cons o l ih =>
    intro acc g
    obtain ⟨h1, h2⟩ := ih (g acc o)
    refine ⟨?_, fun i hi => ?_⟩
    · simp only [List.foldl_cons, List.length_cons]
      rw [h1]; simp [g]; omega
    · simp only [List.foldl_cons]
      rw [h2 i (by simp [g]; omega)]
      simp only [g]
      rw [Array.getElem?_push, if_neg (by omega)]

theorem testBit_fold (acc : Array Nat) (j : Nat) (l : List Edge) : ∀ s0 : Nat, (l.foldl (fun s e => if Region.binds .any e then s ||| 2 ^ e.on ||| acc.getD e.on 0 else s) s0).testBit j = true →
    s0.testBit j = true ∨ ∃ e ∈ l, Region.binds .any e = true ∧ (e.on = j ∨ (acc.getD e.on 0).testBit j = true) := by
  induction l with
  | nil => intro s0 h; exact .inl h
  | cons e l ih =>
    intro s0 h
    simp only [List.foldl_cons] at h
    rcases ih _ h with h | ⟨e', he', r⟩
    · split at h
      · next hb =>
        simp only [Nat.testBit_or, Bool.or_eq_true] at h
        rcases h with (h | h) | h
        · exact .inl h
        · right
          refine ⟨e, by simp, hb, .inl ?_⟩
          rw [Nat.testBit_two_pow] at h
          simpa using h
        · exact .inr ⟨e, by simp, hb, .inr h⟩
      · exact .inl h
    · exact .inr ⟨e', by simp [he'], r⟩

theorem bef_dep {ops : Array Oper} {i j : Nat} {o : Oper} (ho : ops[i]? = some o) (h : bef ops i j = true) : ∃ e ∈ o.after, Region.binds .any e = true ∧ (e.on = j ∨ (e.on < i ∧ bef ops e.on j = true)) := by
  have hi : i < ops.size := by
    rcases Nat.lt_or_ge i ops.size with q | q
    · exact q
    · rw [Array.getElem?_eq_none q] at ho; cases ho
  have hl : ops.toList = ops.toList.take i ++ o :: ops.toList.drop (i + 1) := by
    have : ops.toList[i]? = some o := by simpa using ho
    have h2 := List.take_append_drop i ops.toList
    rw [List.drop_eq_getElem_cons (by simpa using hi)] at h2
    have h3 : ops.toList[i]'(by simpa using hi) = o := by
      have := List.getElem?_eq_getElem (l := ops.toList) (i := i) (by simpa using hi)
      rw [this] at this
      simp_all
    rw [h3] at h2
    exact h2.symm
  let g := fun (acc : Array Nat) (o : Oper) => acc.push (o.after.foldl (fun s e => if Region.binds .any e then s ||| 2 ^ e.on ||| acc.getD e.on 0 else s) 0)
  have hb : Region.before ops = ops.toList.foldl g #[] := by
    unfold Region.before
    rw [← Array.foldl_toList]
  let acc := (ops.toList.take i).foldl g #[]
  have hacc : acc.size = i := by
    have := (before_prefix (ops.toList.take i) #[]).1
    simp only [acc]
    rw [this]; simp; omega
  have hb2 : Region.before ops = (ops.toList.drop (i + 1)).foldl g (g acc o) := by
    rw [hb, hl, List.foldl_append, List.foldl_cons]
    have : (ops.toList.take i ++ o :: ops.toList.drop (i + 1)).take i = ops.toList.take i := by rw [← hl]
    have : (ops.toList.take i ++ o :: ops.toList.drop (i + 1)).drop (i + 1) = ops.toList.drop (i + 1) := by rw [← hl]
    rw [← hl]
  have hpre := (before_prefix (ops.toList.drop (i + 1)) (g acc o)).2
  have hgi : (Region.before ops).getD i 0 = o.after.foldl (fun s e => if Region.binds .any e then s ||| 2 ^ e.on ||| acc.getD e.on 0 else s) 0 := by
    rw [Array.getD_eq_getD_getElem?, hb2]
    have := hpre i (by simp [g, hacc])
    rw [this]
    simp [g, ← hacc]
  have hlow : ∀ k, k < i → (Region.before ops).getD k 0 = acc.getD k 0 := by
    intro k hk
    rw [Array.getD_eq_getD_getElem?, Array.getD_eq_getD_getElem?, hb2]
    have := hpre k (by simp [g, hacc]; omega)
    rw [this]
    simp only [g]
    rw [Array.getElem?_push, if_neg (by omega)]
  unfold bef at h
  rw [hgi, ← Array.foldl_toList] at h
  rcases testBit_fold acc j o.after.toList 0 h with h | ⟨e, he, hbind, hr⟩
  · simp at h
  · refine ⟨e, by simpa using he, hbind, ?_⟩
    rcases hr with hr | hr
    · exact .inl hr
    · right
      by_cases hk : e.on < i
      · exact ⟨hk, by unfold bef; rw [hlow _ hk]; exact hr⟩
      · exfalso
        rw [Array.getD_eq_getD_getElem?, Array.getElem?_eq_none (by omega)] at hr
        simp at hr

end Go.Pv

/- A region that draws its order: sound. -/
namespace Go.Pv
variable {P : Program}

theorem lval_same {st st2 : VSt} {ops : Array Oper} {o : Oper} (ht : ∀ t, t ∈ o.looksAt ops → st2.tm t = st.tm t) (hm : opReads o.op = false ∨ (st2.bx = st.bx ∧ st2.h.ob = st.h.ob ∧ st2.h.fm = st.h.fm ∧ st2.h.gr = st.h.gr ∧ st2.h.ty = st.h.ty)) : lval P st2 ops o = lval P st ops o := by
  have hw : wantV st2 ops o = wantV st ops o := by
    unfold wantV
    split
    · rfl
    · next j want hg =>
      split
      · next d hd =>
        rw [ht d (by simp [Oper.looksAt, hg, hd])]
      · rfl
  have he : SameEv st st2.tm o.op := fun t h => ht t (by
    simp only [Oper.looksAt, List.mem_append, List.mem_filterMap]
    exact .inl ⟨.tmp t, by simpa using h, rfl⟩)
  have hl : st2.light (layoutOf P) o.op = st.light (layoutOf P) o.op := by
    rw [← light_same (L := layoutOf P) he]
    rcases hm with hm | ⟨h1, h2, h3, h4, h5⟩
    · -- what reads no memory
      have key : ∀ (a b : VSt), a.tm = b.tm → a.light (layoutOf P) o.op = b.light (layoutOf P) o.op := by
        intro a b hab
        have hev : ∀ x, a.ev x = b.ev x := fun x => by cases x <;> simp [VSt.ev, hab]
        have hevs : ∀ l, a.evs l = b.evs l := fun l => by induction l with
          | nil => rfl
          | cons x l ih => simp [VSt.evs, hev, ih]
        have hps : ∀ l, a.parts l = b.parts l := fun l => by induction l with
          | nil => rfl
          | cons x l ih => obtain ⟨i, x⟩ := x; simp [VSt.parts, hev, ih]
        have hbd : ∀ x, a.bound? x = b.bound? x := fun x => by cases x <;> simp [VSt.bound?, hev]
        unfold VSt.light
        cases hop : o.op <;> simp only [hop, opReads] at hm <;> simp_all
      exact key _ _ rfl
    · obtain ⟨n1, tm1, bx1, ⟨ob1, fm1, gr1, bd1, ty1⟩⟩ := st
      obtain ⟨n2, tm2, bx2, ⟨ob2, fm2, gr2, bd2, ty2⟩⟩ := st2
      simp only at h1 h2 h3 h4 h5
      subst h1 h2 h3 h4 h5
      -- the number of slots is not looked at
      unfold VSt.light VSt.withTm
      simp only
      have hev : ∀ x, VSt.ev { n := n2, tm := tm2, bx := bx2, h := ⟨ob2, fm2, gr2, bd2, ty2⟩ } x = VSt.ev { n := n1, tm := tm2, bx := bx2, h := ⟨ob2, fm2, gr2, bd1, ty2⟩ } x := fun x => by cases x <;> rfl
      have hevs : ∀ l, VSt.evs { n := n2, tm := tm2, bx := bx2, h := ⟨ob2, fm2, gr2, bd2, ty2⟩ } l = VSt.evs { n := n1, tm := tm2, bx := bx2, h := ⟨ob2, fm2, gr2, bd1, ty2⟩ } l := fun l => by induction l with
        | nil => rfl
        | cons x l ih => simp only [VSt.evs, hev, ih]
      have hps : ∀ l, VSt.parts { n := n2, tm := tm2, bx := bx2, h := ⟨ob2, fm2, gr2, bd2, ty2⟩ } l = VSt.parts { n := n1, tm := tm2, bx := bx2, h := ⟨ob2, fm2, gr2, bd1, ty2⟩ } l := fun l => by induction l with
        | nil => rfl
        | cons x l ih => obtain ⟨i, x⟩ := x; simp only [VSt.parts, hev, ih]
      have hbd : ∀ x, VSt.bound? { n := n2, tm := tm2, bx := bx2, h := ⟨ob2, fm2, gr2, bd2, ty2⟩ } x = VSt.bound? { n := n1, tm := tm2, bx := bx2, h := ⟨ob2, fm2, gr2, bd1, ty2⟩ } x := fun x => by cases x <;> simp only [VSt.bound?, hev]
      have hca : ∀ v, VSt.cellsAt { n := n2, tm := tm2, bx := bx2, h := ⟨ob2, fm2, gr2, bd2, ty2⟩ } v = VSt.cellsAt { n := n1, tm := tm2, bx := bx2, h := ⟨ob2, fm2, gr2, bd1, ty2⟩ } v := fun v => by cases v <;> rfl
      simp only [hev, hevs, hps, hbd, hca]
  unfold lval
  rw [hw, hl]

theorem vfloat_looks {st st2 : VSt} {ops : Array Oper} {o : Oper} (ht : ∀ t, t ∈ o.looksAt ops → st2.tm t = st.tm t) : vfloat P st2 o.op = vfloat P st o.op := by
  have he : SameEv st st2.tm o.op := fun t h => ht t (by
    simp only [Oper.looksAt, List.mem_append, List.mem_filterMap]
    exact .inl ⟨.tmp t, by simpa using h, rfl⟩)
  rw [← vfloat_same (P := P) he]
  exact vfloat_tm rfl

/-- What a slot says of an object that is yet to be known. -/
def FV (P : Program) (st : VSt) (pd : List Pend) (i : Nat) (o : Oper) (d : Nat) : Prop :=
  o.guard = none ∧ ∃ p ∈ pd, p.i = i ∧ ∃ mk, vfloat P st o.op = some (p.cs, p.e, mk) ∧ st.tm d = mk p.r

/-- What a light operation's slot says is what the operation gives. -/
def LV (P : Program) (ops : Array Oper) (st : VSt) (pd : List Pend) (i : Nat) : Prop := ∃ o d, ops[i]? = some o ∧ o.dst = some d ∧ d < st.n ∧
  (isFloat o.op = true → FV P st pd i o d) ∧ (isFloat o.op = false → lval P st ops o = some (st.tm d))

/-- The same memory, but for how many names are taken. -/
def SameH (a b : VSt) : Prop := a.h.ob = b.h.ob ∧ a.h.fm = b.h.fm ∧ a.h.gr = b.h.gr ∧ a.h.ty = b.h.ty

theorem writersOk_spec {ops : Array Oper} {hv prior : List Nat} {i : Nat} {o : Oper} (h : writersOk ops hv prior i o = true) {t : Nat} (ht : t ∈ o.looksAt ops) {j : Nat} {q : Oper} (hj : ops[j]? = some q) (hd : q.dst = some t) : (j ∈ prior ∧ bef ops i j = true) ∨ (j ∈ hv ∧ bef ops j i = true) := by
  unfold writersOk at h
  have h1 := List.all_eq_true.1 h t ht
  have hlt : j < ops.size := by
    rcases Nat.lt_or_ge j ops.size with q' | q'
    · exact q'
    · rw [Array.getElem?_eq_none q'] at hj; cases hj
  have h2 := List.all_eq_true.1 h1 j (List.mem_range.2 hlt)
  simp [hj, hd] at h2
  exact h2

theorem dstsOk_spec {ops : Array Oper} (h : dstsOk ops = true) {i j : Nat} {o q : Oper} (hi : ops[i]? = some o) (hj : ops[j]? = some q) {d : Nat} (h1 : o.dst = some d) (h2 : q.dst = some d) : i = j := by
  have lt : ∀ {k : Nat} {o : Oper}, ops[k]? = some o → k < ops.size := fun {k o} hk => by
    rcases Nat.lt_or_ge k ops.size with q' | q'
    · exact q'
    · rw [Array.getElem?_eq_none q'] at hk; cases hk
  unfold dstsOk at h
  have h3 := List.all_eq_true.1 (List.all_eq_true.1 h i (List.mem_range.2 (lt hi))) j (List.mem_range.2 (lt hj))
  simp [hi, hj, h1, h2] at h3
  exact h3

theorem chkLights_spec {ops : Array Oper} {hv dh : List Nat} : ∀ {is dl dl' : List Nat}, chkLights ops hv dh dl is = some dl' →
    (∀ i, i ∈ dl' ↔ i ∈ dl ∨ i ∈ is) ∧ (∀ i ∈ is, i ∉ dl ∧ i ∉ dh ∧ i ∉ hv ∧ (∀ h ∈ dh, bef ops i h = true) ∧ ∃ o, ops[i]? = some o ∧ o.dst.isSome = true ∧
      ∀ t ∈ o.looksAt ops, ∀ j q, ops[j]? = some q → q.dst = some t → ((j ∈ dl' ∨ j ∈ dh) ∧ bef ops i j = true) ∨ (j ∈ hv ∧ bef ops j i = true))
  | [], dl, dl', h => by
    simp [chkLights] at h; subst h
    simp
  | i :: is, dl, dl', h => by
    simp only [chkLights] at h
    split at h
    · next o ho =>
      split at h
      · next hc =>
        simp only [Bool.and_eq_true, Bool.not_eq_true', List.contains_eq_mem, decide_eq_false_iff_not, List.all_eq_true] at hc
        obtain ⟨⟨⟨⟨⟨c1, c2⟩, c3⟩, c6⟩, c4⟩, c5⟩ := hc
        obtain ⟨h1, h2⟩ := chkLights_spec h
        refine ⟨fun j => ?_, fun j hj => ?_⟩
        · rw [h1 j]; simp only [List.mem_cons]; constructor
          · rintro ((rfl | q) | q)
            · exact .inr (.inl rfl)
            · exact .inl q
            · exact .inr (.inr q)
          · rintro (q | rfl | q)
            · exact .inl (.inr q)
            · exact .inl (.inl rfl)
            · exact .inr q
        · rcases List.mem_cons.1 hj with rfl | hj
          · refine ⟨c2, c3, c6, c4, o, ho, c1, fun t ht j' q hj' hq => ?_⟩
            rcases writersOk_spec c5 ht hj' hq with ⟨w1, w2⟩ | w
            rotate_left
            · exact .inr w
            refine .inl ⟨?_, w2⟩
            rcases List.mem_append.1 w1 with w1 | w1
            · exact .inl ((h1 j').2 (.inl (List.mem_cons_of_mem _ w1)))
            · exact .inr w1
          · obtain ⟨g1, g2, g3, g4⟩ := h2 j hj
            exact ⟨fun q => g1 (List.mem_cons_of_mem _ q), g2, g3, g4⟩
      · cases h
    · cases h

/-- The lights of a stage, one after the other. -/
theorem VLights_run {ops : Array Oper} (hu : dstsOk ops = true) {hv dh : List Nat} {G0 : Ghost} {w : World} : ∀ {is dl dl' : List Nat} {st : VSt} {pd : List Pend} {G : Ghost} {K : VSt → List Pend → Prop}, chkLights ops hv dh dl is = some dl' →
    MemOk st.mem G w → G0.bound ≤ G.bound → VLights P ops is st pd K →
    ∃ st' pd' G', K st' pd' ∧ st'.n = st.n ∧ st'.bx = st.bx ∧ SameH st' st ∧ MemOk st'.mem G' w ∧ Trans st.mem G w st'.mem G' w ∧
      (∃ new, pd' = new ++ pd ∧ (∀ p ∈ new, p.i ∈ is ∧ G.bound ≤ p.r ∧ PendOk G0 st'.mem G' w false p ∧ ∃ o, ops[p.i]? = some o ∧ isFloat o.op = true) ∧ new.Pairwise fun p q => p.r ≠ q.r ∧ p.i ≠ q.i) ∧
      (∀ i ∈ is, LV P ops st' pd' i) ∧ (∀ t, (∀ i ∈ is, ∀ o, ops[i]? = some o → o.dst ≠ some t) → st'.tm t = st.tm t)
  | [], dl, dl', st, pd, G, K, _, hm, _, h => ⟨st, pd, G, h, rfl, rfl, ⟨rfl, rfl, rfl, rfl⟩, hm, Trans.refl _ _ _, ⟨[], rfl, fun _ h => (by cases h), List.Pairwise.nil⟩, fun _ h => (by cases h), fun _ _ => rfl⟩
  | i :: is, dl, dl', st, pd, G, K, hc, hm, hb, h => by
    have hspec := chkLights_spec hc
    simp only [VLights] at h
    simp only [chkLights] at hc
    split at h
    case h_2 => exact h.elim
    rename_i o ho
    rw [ho] at hc
    simp only at hc
    split at hc
    case isFalse => cases hc
    rename_i hcond
    obtain ⟨c2, c3, c6, c4, o', ho', c1, c5⟩ := hspec.2 i (by simp)
    rw [ho] at ho'; cases ho'
    obtain ⟨d, hd⟩ := Option.isSome_iff_exists.1 c1
    have hlater := (chkLights_spec hc).2
    -- what is later leaves alone what this one looks at and writes
    have hlook : ∀ {st0 st' : VSt} {v : VVal}, (∀ t, (∀ i ∈ is, ∀ o, ops[i]? = some o → o.dst ≠ some t) → st'.tm t = (st0.put d v).tm t) → (∀ t ∈ o.looksAt ops, st'.tm t = st0.tm t) ∧ st'.tm d = v := by
      intro st0 st' v hsame
      refine ⟨fun t ht => ?_, ?_⟩
      · rw [hsame t fun k hk q hq hqd => ?_]
        · simp only [VSt.put]
          rw [upd_ne _ _ fun (e : t = d) => ?_]
          subst e
          have hw2 : writersOk ops hv (dl ++ dh) i o = true := by
            simp only [Bool.and_eq_true] at hcond
            exact hcond.2
          rcases writersOk_spec hw2 ht ho hd with ⟨w1, _⟩ | ⟨w1, _⟩
          rotate_left
          · exact c6 w1
          rcases List.mem_append.1 w1 with w1 | w1
          · exact c2 w1
          · exact c3 w1
        · have hw2 : writersOk ops hv (dl ++ dh) i o = true := by
            simp only [Bool.and_eq_true] at hcond
            exact hcond.2
          obtain ⟨g1, g2, g3, _⟩ := hlater k hk
          rcases writersOk_spec hw2 ht hq hqd with ⟨w1, _⟩ | ⟨w1, _⟩
          rotate_left
          · exact g3 w1
          rcases List.mem_append.1 w1 with w1 | w1
          · exact g1 (List.mem_cons_of_mem _ w1)
          · exact g2 w1
      · rw [hsame d fun j hj q hq hqd => ?_]
        · simp [VSt.put]
        · have := dstsOk_spec hu ho hq hd hqd
          subst this
          exact (hlater i hj).1 (by simp)
    split at h
    · -- a new object
      next hfl =>
      obtain ⟨hg, h⟩ := h
      split at h
      case h_2 => exact h.elim
      rename_i cs e mk hvf
      have hp := h G.bound hm.free
      simp only [VPut, hd] at hp
      obtain ⟨hdn, hp⟩ := hp
      obtain ⟨m1, t1⟩ := hm.reserve
      have m1' : MemOk (st.bump.put d (mk G.bound)).mem { G with bound := G.bound + 1 } w := m1
      obtain ⟨st', pd', G', hK, e1, e2, e3, m2, t2, ⟨new, hnew, hno, hnd⟩, hlv, hsame⟩ := VLights_run hu (pd := ⟨i, G.bound, cs, e⟩ :: pd) hc m1' (Nat.le_trans hb (Nat.le_succ _)) hp
      obtain ⟨hl1, hl2⟩ := hlook (st0 := st.bump) (v := mk G.bound) hsame
      refine ⟨st', pd', G', hK, by rw [e1]; rfl, by rw [e2]; rfl, e3, m2, t1.trans hm t2, ⟨new ++ [⟨i, G.bound, cs, e⟩], by rw [hnew]; simp, ?_, ?_⟩, ?_, ?_⟩
      · intro p hp
        rcases List.mem_append.1 hp with hp | hp
        · obtain ⟨q1, q2, q3⟩ := hno p hp
          exact ⟨by simp [q1], by simp at q2; omega, q3⟩
        · simp at hp; subst hp
          exact ⟨by simp, Nat.le_refl _, (PendOk.fresh hm hb i cs e).mono m1' t2, o, ho, hfl⟩
      · refine List.pairwise_append.2 ⟨hnd, by simp, fun p hp q hq => ?_⟩
        simp at hq; subst hq
        obtain ⟨q1, q2, q3⟩ := hno p hp
        simp at q2
        refine ⟨?_, fun e => ?_⟩
        · show p.r ≠ G.bound
          omega
        · have e : p.i = i := e
          rw [e] at q1
          exact (hlater i q1).1 (by simp)
      · intro j hj
        rcases List.mem_cons.1 hj with rfl | hj
        · refine ⟨o, d, ho, hd, by rw [e1]; exact hdn, fun _ => ⟨hg, ⟨j, G.bound, cs, e⟩, by rw [hnew]; simp, rfl, mk, ?_, hl2⟩, fun q => by rw [hfl] at q; cases q⟩
          rw [vfloat_looks (P := P) (st := st.bump) hl1]
          rw [vfloat_tm (P := P) (st := st) (st2 := st.bump) rfl]
          exact hvf
        · exact hlv j hj
      · intro t ht
        rw [hsame t fun k hk q hq => ht k (List.mem_cons_of_mem _ hk) q hq]
        simp only [VSt.put]
        rw [upd_ne _ _ fun (e : t = d) => ht i (by simp) o ho (by rw [e]; exact hd)]
        rfl
    · next hfl =>
      split at h
      case h_2 => exact h.elim
      rename_i v hvv
      simp only [VPut, hd] at h
      obtain ⟨hdn, h⟩ := h
      have m1' : MemOk (st.put d v).mem G w := hm
      obtain ⟨st', pd', G', hK, e1, e2, e3, m2, t2, ⟨new, hnew, hno, hnd⟩, hlv, hsame⟩ := VLights_run hu hc m1' hb h
      obtain ⟨hl1, hl2⟩ := hlook (st0 := st) (v := v) hsame
      refine ⟨st', pd', G', hK, by rw [e1]; rfl, by rw [e2]; rfl, e3, m2, t2, ⟨new, hnew, fun p hp => ?_, hnd⟩, ?_, ?_⟩
      · obtain ⟨q1, q2, q3⟩ := hno p hp
        exact ⟨by simp [q1], q2, q3⟩
      · intro j hj
        rcases List.mem_cons.1 hj with rfl | hj
        · refine ⟨o, d, ho, hd, by rw [e1]; exact hdn, fun q => by (rw [hfl] at q; cases q), fun _ => ?_⟩
          rw [hl2, lval_same (P := P) (st := st) (st2 := st') hl1 (.inr ⟨by rw [e2]; rfl, e3⟩)]
          exact hvv
        · exact hlv j hj
      · intro t ht
        rw [hsame t fun k hk q hq => ht k (List.mem_cons_of_mem _ hk) q hq]
        simp only [VSt.put]
        rw [upd_ne _ _ fun (e : t = d) => ht i (by simp) o ho (by rw [e]; exact hd)]

theorem VRe_spec {ops : Array Oper} {st : VSt} : ∀ {re : List Nat}, VRe P ops re st → ∀ i ∈ re, ∃ o, ops[i]? = some o ∧ lval P st ops o = some (st.dst o.dst)
  | [], _, _, h => by simp at h
  | i :: is, h, j, hj => by
    simp only [VRe] at h
    rcases List.mem_cons.1 hj with rfl | hj
    · have := h.1
      split at this
      · next o ho => exact ⟨o, ho, this⟩
      · exact this.elim
    · exact VRe_spec h.2 j hj

/-- Whatever comes later waits for the heavy ones that were. -/
theorem chk_later {ops : Array Oper} {hv : List Nat} : ∀ {rest : List Stage} {dl dh : List Nat}, chkStages ops hv dl dh rest = true → ∀ i, i < ops.size → i ∈ dl ∨ i ∈ dh ∨ ∀ x ∈ dh, bef ops i x = true
  | [], dl, dh, h, _, _ => by simp [chkStages] at h
  | s :: rest, dl, dh, h, i, hi => by
    simp only [chkStages, Bool.and_eq_true] at h
    obtain ⟨_, h⟩ := h
    split at h
    · cases h
    · next dl' hl =>
      obtain ⟨h1, h2⟩ := chkLights_spec hl
      split at h
      · simp only [Bool.and_eq_true, List.all_eq_true, List.mem_range, Bool.or_eq_true, List.contains_eq_mem, decide_eq_true_eq] at h
        rcases h.2 i hi with q | q
        · rcases (h1 i).1 q with q | q
          · exact .inl q
          · exact .inr (.inr (h2 i q).2.2.2.1)
        · exact .inr (.inl q)
      · next hvx =>
        split at h
        · next o ho =>
          simp only [Bool.and_eq_true, List.all_eq_true] at h
          obtain ⟨⟨⟨⟨c1, c2⟩, c3⟩, c4⟩, c5⟩ := h
          rcases chk_later c5 i hi with q | q | q
          · rcases (h1 i).1 q with q | q
            · exact .inl q
            · exact .inr (.inr (h2 i q).2.2.2.1)
          · rcases List.mem_cons.1 q with rfl | q
            · exact .inr (.inr c3)
            · exact .inr (.inl q)
          · exact .inr (.inr fun x hx => q x (List.mem_cons_of_mem _ hx))
        · cases h

end Go.Pv

/- A region that draws its order: whatever the order, it ends as its plan says. -/
namespace Go.Pv
variable {P : Program}

theorem Oper.wp_shape {o : Oper} {a : Act} {w : World} {K : Act → World → Prop} {Q : Exit → Act → World → Prop} (h : o.wp P a w K Q) :
    o.wp P a w (fun a1 w1 => K a1 w1 ∧ ((∃ v, a1 = a.put o.dst v) ∨ ∃ d, a1.defers = d :: a.defers)) (fun e a1 w1 => Q e a1 w1 ∧ (a1 = a ∨ e = .outgrown)) := by
  unfold Oper.wp at h ⊢
  cases hr : (execOp a.eval o).run P w with
  | ok x w1 =>
    rw [hr] at h
    cases x <;> simp only [Oper.upon] at h ⊢
    case value v => exact ⟨h, .inl ⟨_, rfl⟩⟩
    case skip => exact ⟨h, .inl ⟨_, rfl⟩⟩
    case defer d => exact ⟨h, .inr ⟨d, by simp [put_defers]⟩⟩
    case enter f args =>
      refine h.mono fun e w2 he => ?_
      cases e with
      | returned v => exact ⟨he, .inl ⟨_, rfl⟩⟩
      | panicked c => exact ⟨he, .inl trivial⟩
      | outgrown => obtain ⟨a0, w0, q⟩ := he; exact ⟨a0, w0, q, .inr rfl⟩
    case row row args => exact h.mono fun v w2 q => ⟨q, .inl ⟨_, rfl⟩⟩
  | halt x w1 =>
    rw [hr] at h
    cases x <;> simp only [Oper.upon] at h ⊢
    exact ⟨h, .inl trivial⟩

/-- All that wrote a slot virtually are listed. -/
def Wrote (ops : Array Oper) (dl dh : List Nat) (listed : Array Bool) (t : Nat) : Prop := ∀ j q, ops[j]? = some q → q.dst = some t → (j ∈ dl ∨ j ∈ dh) → listed.getD j false = true

structure Real (ops : Array Oper) (st0 : VSt) (G0 : Ghost) (w0 : World) (D : List Deferred) (dl dh : List Nat) (st : VSt) (pd : List Pend) (listed : Array Bool) (G : Ghost) (w : World) (a : Act) : Prop where
  mem : MemOk st.mem G w
  tr : Trans st0.mem G0 w0 st.mem G w
  size : a.tmps.size = st.n
  tm : ∀ t, Wrote ops dl dh listed t → VRel G (st.tm t) (a.tmps.getD t undef)
  lsize : listed.size = ops.size
  lin : ∀ i, listed.getD i false = true → i ∈ dl ∨ i ∈ dh
  hin : ∀ i ∈ dh, listed.getD i false = true
  clo : ∀ i o, ops[i]? = some o → listed.getD i false = true → ∀ e ∈ o.after, Region.binds .any e = true → listed.getD e.on false = true
  df : a.defers = D
  pok : ∀ p ∈ pd, PendOk G0 st.mem G w (listed.getD p.i false) p
  pdd : pd.Pairwise fun p q => p.r ≠ q.r ∧ p.i ≠ q.i
  pdl : ∀ p ∈ pd, p.i ∈ dl ∧ ∃ o, ops[p.i]? = some o ∧ isFloat o.op = true

theorem pend_eq : ∀ {l : List Pend}, l.Pairwise (fun p q => p.r ≠ q.r ∧ p.i ≠ q.i) → ∀ {p q : Pend}, p ∈ l → q ∈ l → (p.i = q.i ∨ p.r = q.r) → p = q
  | [], _, _, _, h, _, _ => by cases h
  | x :: l, hd, p, q, hp, hq, e => by
    obtain ⟨d1, d2⟩ := List.pairwise_cons.1 hd
    rcases List.mem_cons.1 hp with rfl | hp <;> rcases List.mem_cons.1 hq with rfl | hq
    · rfl
    · rcases e with e | e
      · exact absurd e (d1 q hq).2
      · exact absurd e (d1 q hq).1
    · rcases e with e | e
      · exact absurd e.symm (d1 p (by assumption)).2
      · exact absurd e.symm (d1 p (by assumption)).1
    · exact pend_eq d2 hp hq e

def left (listed : Array Bool) : Nat := listed.toList.count false

theorem left_set {listed : Array Bool} {i : Nat} (h : listed.getD i true = false) : left (listed.setIfInBounds i true) + 1 = left listed := by
  have hi : i < listed.size := by
    rcases Nat.lt_or_ge i listed.size with q | q
    · exact q
    · simp [Array.getElem?_eq_none q] at h
  have hv : listed.toList[i]'(by simpa using hi) = false := by
    simpa [Array.getD_eq_getD_getElem?, hi] using h
  have hpos : 0 < listed.toList.count false := List.count_pos_iff.2 (by rw [← hv]; exact List.getElem_mem _)
  unfold left
  have hv' : listed[i] = false := by simpa using hv
  rw [Array.toList_setIfInBounds, List.count_set (by simpa using hi)]
  simp only [Array.getElem_toList, hv', beq_self_eq_true, if_true]
  rw [if_neg (by decide : ¬ ((true == false) = true))]
  omega

/-- What is before a listed one is listed. -/
theorem listed_bef {ops : Array Oper} {listed : Array Bool} (clo : ∀ i o, ops[i]? = some o → listed.getD i false = true → ∀ e ∈ o.after, Region.binds .any e = true → listed.getD e.on false = true) :
    ∀ (i j : Nat), listed.getD i false = true → bef ops i j = true → listed.getD j false = true := by
  intro i
  induction i using Nat.strongRecOn with
  | _ i ih =>
    intro j hl hb
    cases ho : ops[i]? with
    | none =>
      exfalso
      have hi : ops.size ≤ i := by
        rcases Nat.lt_or_ge i ops.size with q | q
        · simp [q] at ho
        · exact q
      have hsz : (Region.before ops).size = ops.size := by
        unfold Region.before
        rw [← Array.foldl_toList]
        have := (before_prefix ops.toList #[]).1
        simpa using this
      unfold bef at hb
      rw [Array.getD_eq_getD_getElem?, Array.getElem?_eq_none (by omega)] at hb
      simp at hb
    | some o =>
      obtain ⟨e, he, hbind, r⟩ := bef_dep ho hb
      have h1 := clo i o ho hl e he hbind
      rcases r with r | ⟨hlt, r⟩
      · rw [← r]; exact h1
      · exact ih e.on hlt j h1 r

theorem ready_bef {ops : Array Oper} {listed : Array Bool} (clo : ∀ i o, ops[i]? = some o → listed.getD i false = true → ∀ e ∈ o.after, Region.binds .any e = true → listed.getD e.on false = true) {i : Nat}
    (hr : i ∈ Region.ready .any ops listed) {j : Nat} (hb : bef ops i j = true) : listed.getD j false = true := by
  obtain ⟨_, o, ho, hall⟩ := mem_ready.1 hr
  obtain ⟨e, he, hbind, r⟩ := bef_dep ho hb
  have h1 := hall e he hbind
  rcases r with r | ⟨_, r⟩
  · rw [← r]; exact h1
  · exact listed_bef clo e.on j h1 r

theorem edgesOk_spec {ops : Array Oper} (h : edgesOk ops = true) {i : Nat} {o : Oper} (ho : ops[i]? = some o) : ∀ e ∈ o.after, Region.binds .any e = true → e.on < i := by
  have hi : i < ops.size := (Array.getElem?_eq_some_iff.1 ho).1
  unfold edgesOk at h
  have h1 := List.all_eq_true.1 h i (List.mem_range.2 hi)
  rw [ho] at h1
  simp only [Array.all_eq_true_iff_forall_mem, Bool.or_eq_true, Bool.not_eq_true', decide_eq_true_eq] at h1
  intro e he hb
  rcases h1 e he with q | q
  · rw [hb] at q; cases q
  · exact q

/-- Where nothing is ready all is listed. -/
theorem all_listed {ops : Array Oper} (he : edgesOk ops = true) {listed : Array Bool} (hs : listed.size = ops.size) (h : Region.ready .any ops listed = []) : ∀ i, i < ops.size → listed.getD i false = true := by
  intro i
  induction i using Nat.strongRecOn with
  | _ i ih =>
    intro hi
    cases hl : listed.getD i false with
    | true => rfl
    | false =>
      exfalso
      have : i ∈ Region.ready .any ops listed := by
        refine mem_ready.2 ⟨by simpa [Array.getD_eq_getD_getElem?, hs, hi] using hl, ops[i], by simp [hi], fun e hee hb => ?_⟩
        have hlt := edgesOk_spec he (i := i) (by simp [hi]) e hee hb
        exact ih e.on hlt (by omega)
      rw [h] at this
      cases this


noncomputable def seen (ops : Array Oper) (dl dh : List Nat) (listed : Array Bool) (tm : Nat → VVal) : Nat → VVal := fun t => by
  classical exact if Wrote ops dl dh listed t then tm t else .undef

theorem seen_yes {ops : Array Oper} {dl dh : List Nat} {listed : Array Bool} {tm : Nat → VVal} {t : Nat} (h : Wrote ops dl dh listed t) : seen ops dl dh listed tm t = tm t := by
  unfold seen; simp [h]

theorem Real.act {ops : Array Oper} {st0 : VSt} {G0 : Ghost} {w0 : World} {D : List Deferred} {dl dh : List Nat} {st : VSt} {pd : List Pend} {listed : Array Bool} {G : Ghost} {w : World} {a : Act}
    (h : Real ops st0 G0 w0 D dl dh st pd listed G w a) : ActRel (st.withTm (seen ops dl dh listed st.tm)) G a :=
  ⟨h.size, fun k => by
    classical
    show VRel G (seen ops dl dh listed st.tm k) _
    unfold seen
    by_cases q : Wrote ops dl dh listed k
    · simp only [if_pos q]; exact h.tm k q
    · simp only [if_neg q, VRel]⟩

theorem wrote_set {ops : Array Oper} {dl dh dl' dh' : List Nat} {listed : Array Bool} {i t : Nat} {o : Oper} (ho : ops[i]? = some o) (hne : o.dst ≠ some t) (hl : ∀ j, j ∈ dl ∨ j ∈ dh → j ∈ dl' ∨ j ∈ dh') (h : Wrote ops dl' dh' (listed.setIfInBounds i true) t) : Wrote ops dl dh listed t := by
  intro j q hj hq hd
  have hij : i ≠ j := fun e => by subst e; rw [ho] at hj; cases hj; exact hne hq
  have := h j q hj hq (hl j hd)
  rwa [getD_set_ne false hij] at this

theorem set_listed {listed : Array Bool} {i j : Nat} (h : (listed.setIfInBounds i true).getD j false = true) : i = j ∨ listed.getD j false = true := by
  by_cases e : i = j
  · exact .inl e
  · rw [getD_set_ne false e] at h; exact .inr h

theorem set_self {listed : Array Bool} {i : Nat} (h : i < listed.size) : (listed.setIfInBounds i true).getD i false = true := by
  simp [Array.getD_eq_getD_getElem?, h]

theorem put_get {a : Act} {d : Nat} {v : Value} (h : d < a.tmps.size) : (a.put (some d) v).tmps.getD d undef = v := by
  simp [Act.put, Array.getD_eq_getD_getElem?, h]

theorem put_other {a : Act} {dst : Option Nat} {v : Value} {t : Nat} (e : dst ≠ some t) : (a.put dst v).tmps.getD t undef = a.tmps.getD t undef := by
  cases hdst : dst with
  | none => rfl
  | some d =>
    have : d ≠ t := fun q => e (by rw [hdst, q])
    simp only [Act.put, Array.getD_eq_getD_getElem?, Array.getElem?_setIfInBounds, if_neg this]

/-- The real state behind a step at i. -/
theorem Real.next {ops : Array Oper} {st0 : VSt} {G0 : Ghost} {w0 : World} {D : List Deferred} {dl dh dh' : List Nat} {st st' : VSt} {pd : List Pend} {listed : Array Bool} {G G' : Ghost} {w w' : World} {a : Act} {v : Value} {i : Nat} {o : Oper}
    (h : Real ops st0 G0 w0 D dl dh st pd listed G w a) (hm0 : MemOk st0.mem G0 w0) (hr : i ∈ Region.ready .any ops listed) (ho : ops[i]? = some o)
    (hm : MemOk st'.mem G' w') (ht : Trans st.mem G w st'.mem G' w') (hn : st'.n = st.n) (htm : ∀ t, o.dst ≠ some t → Wrote ops dl dh listed t → st'.tm t = st.tm t)
    (hd : ∀ d, o.dst = some d → VRel G' (st'.tm d) ((a.put o.dst v).tmps.getD d undef))
    (hin : i ∈ dl ∨ i ∈ dh') (hl : ∀ j, j ∈ dh → j ∈ dh') (hh : ∀ j ∈ dh', j ∈ dh ∨ j = i) (hpi : ∀ p ∈ pd, p.i ≠ i) :
    Real ops st0 G0 w0 D dl dh' st' pd (listed.setIfInBounds i true) G' w' (a.put o.dst v) where
  mem := hm
  tr := h.tr.trans hm0 ht
  size := by rw [hn, ← h.size]; cases o.dst <;> simp [Act.put]
  tm t hw := by
    by_cases e : o.dst = some t
    · exact hd t e
    · have hw' := wrote_set ho e (fun j hj => hj.imp id (hl j)) hw
      rw [htm t e hw', put_other e]
      exact VRel.mono ht.ext (h.tm t hw')
  lsize := by simp [h.lsize]
  lin j hj := by
    rcases set_listed hj with e | e
    · subst e; exact hin
    · exact (h.lin j e).imp id (hl j)
  hin j hj := by
    rcases hh j hj with e | e
    · exact getD_set_true (h.hin j e)
    · subst e
      exact set_self (by rw [h.lsize]; exact (Array.getElem?_eq_some_iff.1 ho).1)
  clo j q hj hlst e he hb := by
    rcases set_listed hlst with r | r
    · subst r
      obtain ⟨_, o', ho', hall⟩ := mem_ready.1 hr
      rw [hj] at ho'; cases ho'
      exact getD_set_true (hall e he hb)
    · exact getD_set_true (h.clo j q hj r e he hb)
  df := by rw [put_defers]; exact h.df
  pok p hp := by
    rw [getD_set_ne false (Ne.symm (hpi p hp))]
    exact (h.pok p hp).mono h.mem ht
  pdd := h.pdd
  pdl := h.pdl

/-- The real state behind the making of a new object. -/
theorem Real.made {ops : Array Oper} {st0 : VSt} {G0 : Ghost} {w0 : World} {D : List Deferred} {dl dh : List Nat} {st : VSt} {pd : List Pend} {listed : Array Bool} {G : Ghost} {w : World} {a : Act} {v : Value} {o : Oper} {p : Pend}
    (h : Real ops st0 G0 w0 D dl dh st pd listed G w a) (hr : p.i ∈ Region.ready .any ops listed) (ho : ops[p.i]? = some o) (hp : p ∈ pd) (hun : listed.getD p.i false = false)
    {us : Array Value} (hus : VRels G p.cs us.toList) (hone : Ones us.toList) {d : Nat} (hd : o.dst = some d) (hdn : d < st.n) (hv : VRel (G.put w.heap.size (.obj p.r) G.bound) (st.tm d) v) :
    Real ops st0 G0 w0 D dl dh st pd (listed.setIfInBounds p.i true) (G.put w.heap.size (.obj p.r) G.bound) (w.alloc (.cells us p.e)) (a.put o.dst v) where
  mem := h.mem.pushNamed (h.pok p hp).hi ((h.pok p hp).no hun) (h.pok p hp).ob (h.pok p hp).ty us p.e
  tr := h.tr.andNamed h.mem (h.pok p hp).lo us p.e
  size := by rw [← h.size]; cases o.dst <;> simp [Act.put]
  tm t hw := by
    by_cases e : o.dst = some t
    · rw [hd] at e; cases e
      rw [hd, put_get (by rw [h.size]; exact hdn)]
      exact hv
    · have hw' := wrote_set ho e (fun j hj => hj) hw
      rw [put_other e]
      exact VRel.mono (Ext.put h.mem.free_size (Nat.le_refl _)) (h.tm t hw')
  lsize := by simp [h.lsize]
  lin j hj := by
    rcases set_listed hj with e | e
    · rw [← e]; exact .inl (h.pdl p hp).1
    · exact h.lin j e
  hin j hj := getD_set_true (h.hin j hj)
  clo j q hj hlst e he hb := by
    rcases set_listed hlst with r | r
    · subst r
      obtain ⟨_, o', ho', hall⟩ := mem_ready.1 hr
      rw [hj] at ho'; cases ho'
      exact getD_set_true (hall e he hb)
    · exact getD_set_true (h.clo j q hj r e he hb)
  df := by rw [put_defers]; exact h.df
  pok q hq := by
    by_cases e : q.i = p.i
    · have := pend_eq h.pdd hq hp (.inl e)
      subst this
      rw [set_self (by rw [h.lsize]; exact (Array.getElem?_eq_some_iff.1 ho).1)]
      exact (h.pok q hq).made h.mem hus hone
    · rw [getD_set_ne false (Ne.symm e)]
      exact (h.pok q hq).other h.mem (fun r => e (by rw [pend_eq h.pdd hq hp (.inr r.symm)])) us p.e
  pdd := h.pdd
  pdl := h.pdl

/-- What is made comes to be known. -/
theorem Real.lands {ops : Array Oper} {st0 : VSt} {G0 : Ghost} {w0 : World} {D : List Deferred} {dl dh : List Nat} {st : VSt} {pd : List Pend} {listed : Array Bool} {G : Ghost} {w : World} {a : Act}
    (h : Real ops st0 G0 w0 D dl dh st pd listed G w a) (f : Pend → Bool) (hf : ∀ p ∈ pd, f p = true → listed.getD p.i false = true) :
    Real ops st0 G0 w0 D dl dh (st.lands (pd.filter f)) (pd.filter fun p => !f p) listed G w a := by
  obtain ⟨k1, k2, k3⟩ := lands_keep (pd.filter f) st
  have hsub : (pd.filter f).Pairwise (fun p q => p.r ≠ q.r) := (h.pdd.filter f).imp fun h => h.1
  obtain ⟨m1, t1, p1⟩ := lands_ok (G0 := G0) (pd.filter f) st h.mem (fun p hp => by
    obtain ⟨q1, q2⟩ := List.mem_filter.1 hp
    have := h.pok p q1
    rw [hf p q1 q2] at this
    exact this) hsub
  exact
    { mem := m1
      tr := t1 _ _ h.tr
      size := by rw [k1]; exact h.size
      tm := fun t ht => by rw [k2]; exact h.tm t ht
      lsize := h.lsize
      lin := h.lin
      hin := h.hin
      clo := h.clo
      df := h.df
      pok := fun p hp => by
        obtain ⟨q1, q2⟩ := List.mem_filter.1 hp
        refine p1 p _ (fun q hq e => ?_) (h.pok p q1)
        obtain ⟨r1, r2⟩ := List.mem_filter.1 hq
        have := pend_eq h.pdd r1 q1 (.inr e)
        subst this
        rw [r2] at q2; cases q2
      pdd := h.pdd.filter _
      pdl := fun p hp => h.pdl p (List.mem_filter.1 hp).1 }

end Go.Pv

/- A region that draws its order: the main induction. -/
namespace Go.Pv
variable {P : Program}

/-- What is owed in the midst of a region: its lights so far are done. -/
structure Mid (P : Program) (esc : Nat → Bool) (ops : Array Oper) (hs : List Nat) (Q : VExit → VSt → Prop) (dl dh : List Nat) (hv : Option Nat) (rest : List Stage) (st : VSt) (pd : List Pend) (listed : Array Bool) : Prop where
  lv : ∀ i ∈ dl, listed.getD i false = false → LV P ops st pd i
  wr : ∀ i ∈ dl, ∀ o, ops[i]? = some o → ∀ t ∈ o.looksAt ops, ∀ j q, ops[j]? = some q → q.dst = some t → ((j ∈ dl ∨ j ∈ dh) ∧ bef ops i j = true) ∨ (j ∈ hs ∧ bef ops j i = true)
  nh : ∀ i ∈ dl, i ∉ hs
  go : match hv with
    | none => Q .normal (st.lands pd) ∧ ∀ i, i < ops.size → i ∈ dl ∨ i ∈ dh
    | some h => ∃ o, ops[h]? = some o ∧ h ∉ dl ∧ h ∉ dh ∧ (∀ t ∈ o.looksAt ops, ∀ j q, ops[j]? = some q → q.dst = some t → ((j ∈ dl ∨ j ∈ dh) ∧ bef ops h j = true) ∨ (j ∈ hs ∧ bef ops j h = true)) ∧ chkStages ops hs dl (h :: dh) rest = true ∧
      VGuarded P esc ops o (st.lands (landed ops h pd)) (fun st2 => VStages P esc ops Q rest st2 (waiting ops h pd)) (fun v st2 => Q (.panic v) (st2.withTm (maskTm ops st2.tm)))

/-- The next stage's lights. -/
theorem Mid.stage {esc : Nat → Bool} {ops : Array Oper} {hs : List Nat} {Q : VExit → VSt → Prop} {st0 : VSt} {G0 : Ghost} {w0 : World} {D : List Deferred} {dl dh : List Nat} {rest : List Stage} {st : VSt} {pd : List Pend} {listed : Array Bool} {G : Ghost} {w : World} {a : Act}
    (hu : dstsOk ops = true) (hm0 : MemOk st0.mem G0 w0) (hc : chkStages ops hs dl dh rest = true) (h : VStages P esc ops Q rest st pd) (hreal : Real ops st0 G0 w0 D dl dh st pd listed G w a)
    (hwr : ∀ i ∈ dl, ∀ o, ops[i]? = some o → ∀ t ∈ o.looksAt ops, ∀ j q, ops[j]? = some q → q.dst = some t → ((j ∈ dl ∨ j ∈ dh) ∧ bef ops i j = true) ∨ (j ∈ hs ∧ bef ops j i = true))
    (hnh : ∀ i ∈ dl, i ∉ hs)
    (hlv : ∀ i ∈ dl, listed.getD i false = false → ∃ o d, ops[i]? = some o ∧ o.dst = some d ∧ d < st.n ∧
      (isFloat o.op = true → FV P st pd i o d) ∧ (isFloat o.op = false → opReads o.op = false → lval P st ops o = some (st.tm d)) ∧ headBef ops dh i = false) :
    ∃ dl' hv rest' st' pd' G', Mid P esc ops hs Q dl' dh hv rest' st' pd' listed ∧ Real ops st0 G0 w0 D dl' dh st' pd' listed G' w a := by
  cases rest with
  | nil => simp [chkStages] at hc
  | cons s rest =>
    simp only [chkStages, Bool.and_eq_true] at hc
    obtain ⟨hre, hc⟩ := hc
    simp only [VStages] at h
    split at hc
    case h_1 => cases hc
    rename_i dl' hl
    obtain ⟨h1, h2⟩ := chkLights_spec hl
    obtain ⟨st', pd', G', ⟨hVre, hK⟩, e1, e2, e3, m2, t2, ⟨new, hnew, hno, hnd⟩, hlv', hsame⟩ := VLights_run (G0 := G0) hu hl hreal.mem hreal.tr.ext.bound h
    have hlin := hreal.lin
    have hold : ∀ t, (∀ j q, ops[j]? = some q → q.dst = some t → j ∈ dl ∨ j ∈ dh ∨ j ∈ hs) → st'.tm t = st.tm t := fun t ht => hsame t fun i hi o ho hd => by
      obtain ⟨g1, g2, g3, _⟩ := h2 i hi
      rcases ht i o ho hd with q | q | q
      · exact g1 q
      · exact g2 q
      · exact g3 q
    have hlooks : ∀ i ∈ dl, ∀ o, ops[i]? = some o → ∀ t ∈ o.looksAt ops, st'.tm t = st.tm t := fun i hi o ho t ht => hold t fun j q' hj hq' => by
      rcases hwr i hi o ho t ht j q' hj hq' with ⟨r | r, _⟩ | ⟨r, _⟩
      · exact .inl r
      · exact .inr (.inl r)
      · exact .inr (.inr r)
    have hown : ∀ i ∈ dl, ∀ o d, ops[i]? = some o → o.dst = some d → st'.tm d = st.tm d := fun i hi o d ho hd => hold d fun j q' hj hq' => by
      have := dstsOk_spec hu ho hj hd hq'
      subst this; exact .inl hi
    have hLV : ∀ i ∈ dl', listed.getD i false = false → LV P ops st' pd' i := by
      intro i hi hli
      rcases (h1 i).1 hi with q | q
      · obtain ⟨o, d, ho, hd, hdn, hfv, hval, hbf⟩ := hlv i q hli
        have hri := List.all_eq_true.1 hre i q
        simp only [Bool.or_eq_true, Bool.not_eq_true', List.contains_eq_mem, decide_eq_true_eq] at hri
        refine ⟨o, d, ho, hd, by rw [e1]; exact hdn, fun hfl => ?_, fun hfl => ?_⟩
        · obtain ⟨f1, p, f2, f3, mk, f4, f5⟩ := hfv hfl
          exact ⟨f1, p, by rw [hnew]; simp [f2], f3, mk, by rw [vfloat_looks (P := P) (hlooks i q o ho)]; exact f4, by rw [hown i q o d ho hd]; exact f5⟩
        · rcases hri with (hri | hri) | hri
          · obtain ⟨o', ho', hv'⟩ := VRe_spec hVre i hri
            rw [ho] at ho'; cases ho'
            rw [hv', hd]; rfl
          · have hop : opReads o.op = false := by simpa [readsAt, ho] using hri
            rw [hown i q o d ho hd, ← hval hfl hop]
            exact lval_same (hlooks i q o ho) (.inl hop)
          · rw [hbf] at hri; cases hri
      · exact hlv' i q
    have hnh' : ∀ i ∈ dl', i ∉ hs := fun i hi => by
      rcases (h1 i).1 hi with r | r
      · exact hnh i r
      · exact (h2 i r).2.2.1
    have hwr' : ∀ i ∈ dl', ∀ o, ops[i]? = some o → ∀ t ∈ o.looksAt ops, ∀ j q, ops[j]? = some q → q.dst = some t → ((j ∈ dl' ∨ j ∈ dh) ∧ bef ops i j = true) ∨ (j ∈ hs ∧ bef ops j i = true) := by
      intro i hi o ho t ht j q hj hq
      rcases (h1 i).1 hi with r | r
      · rcases hwr i r o ho t ht j q hj hq with ⟨g1, g2⟩ | g
        · exact .inl ⟨g1.imp (fun x => (h1 j).2 (.inl x)) id, g2⟩
        · exact .inr g
      · obtain ⟨_, _, _, _, o', ho', _, g⟩ := h2 i r
        rw [ho] at ho'; cases ho'
        exact g t ht j q hj hq
    have hunl : ∀ i ∈ s.lights, listed.getD i false = false := fun i hi => by
      cases hq : listed.getD i false with
      | false => rfl
      | true =>
        obtain ⟨g1, g2, _⟩ := h2 i hi
        rcases hlin i hq with q | q
        · exact absurd q g1
        · exact absurd q g2
    have hw : ∀ t, Wrote ops dl' dh listed t → st'.tm t = st.tm t := fun t ht => hsame t fun i hi o ho hd => by
      have := ht i o ho hd (.inl ((h1 i).2 (.inr hi)))
      rw [hunl i hi] at this; cases this
    have hreal' : Real ops st0 G0 w0 D dl' dh st' pd' listed G' w a :=
      { mem := m2
        tr := hreal.tr.trans hm0 t2
        size := by rw [e1]; exact hreal.size
        tm := fun t ht => by
          rw [hw t ht]
          exact VRel.mono t2.ext (hreal.tm t fun j q g1 g2 g3 => ht j q g1 g2 (g3.imp (fun x => (h1 j).2 (.inl x)) id))
        lsize := hreal.lsize
        lin := fun i hi => (hlin i hi).imp (fun x => (h1 i).2 (.inl x)) id
        hin := hreal.hin
        clo := hreal.clo
        df := hreal.df
        pok := fun p hp => by
          rw [hnew] at hp
          rcases List.mem_append.1 hp with hp | hp
          · obtain ⟨q1, q2, q3⟩ := hno p hp
            rw [hunl p.i q1]; exact q3.1
          · exact (hreal.pok p hp).mono hreal.mem t2
        pdd := by
          rw [hnew]
          refine List.pairwise_append.2 ⟨hnd, hreal.pdd, fun p hp q hq => ?_⟩
          obtain ⟨q1, q2, q3⟩ := hno p hp
          have r1 := (hreal.pok q hq).hi
          refine ⟨by omega, fun e => ?_⟩
          exact (h2 p.i q1).1 (by rw [e]; exact (hreal.pdl q hq).1)
        pdl := fun p hp => by
          rw [hnew] at hp
          rcases List.mem_append.1 hp with hp | hp
          · obtain ⟨q1, q2, q3, q4⟩ := hno p hp
            exact ⟨(h1 p.i).2 (.inr q1), q4⟩
          · exact ⟨(h1 p.i).2 (.inl (hreal.pdl p hp).1), (hreal.pdl p hp).2⟩ }
    cases hh : s.heavy with
    | none =>
      rw [hh] at hc hK
      simp only [Bool.and_eq_true, List.all_eq_true, List.mem_range, Bool.or_eq_true, List.contains_eq_mem, decide_eq_true_eq] at hc
      exact ⟨dl', none, rest, st', pd', G', ⟨hLV, hwr', hnh', hK, hc.2⟩, hreal'⟩
    | some x =>
      rw [hh] at hc hK
      simp only at hc hK
      split at hc
      case h_2 => cases hc
      rename_i o ho
      simp only [ho] at hK
      simp only [Bool.and_eq_true, Bool.not_eq_true', List.contains_eq_mem, decide_eq_false_iff_not] at hc
      obtain ⟨⟨⟨⟨c1, c2⟩, c3⟩, c4⟩, c5⟩ := hc
      refine ⟨dl', some x, rest, st', pd', G', ⟨hLV, hwr', hnh', o, ho, c1, c2, fun t ht j q hj hq => ?_, c5, hK⟩, hreal'⟩
      rcases writersOk_spec c4 ht hj hq with ⟨w1, w2⟩ | w
      · exact .inl ⟨List.mem_append.1 w1, w2⟩
      · exact .inr w

theorem wantV_same {st st2 : VSt} {ops : Array Oper} {o : Oper} (ht : ∀ t, t ∈ o.looksAt ops → st2.tm t = st.tm t) : wantV st2 ops o = wantV st ops o := by
  unfold wantV
  split
  · rfl
  · next j want hg =>
    split
    · next d hd => rw [ht d (by simp [Oper.looksAt, hg, hd])]
    · rfl

theorem sameEv_of {st : VSt} {tm2 : Nat → VVal} {ops : Array Oper} {o : Oper} (ht : ∀ t, t ∈ o.looksAt ops → tm2 t = st.tm t) : SameEv st tm2 o.op := fun t h => ht t (by
  simp only [Oper.looksAt, List.mem_append, List.mem_filterMap]
  exact .inl ⟨.tmp t, by simpa using h, rfl⟩)

/-- What is wanted virtually is wanted. -/
theorem wanted_of {st : VSt} {ops : Array Oper} {o : Oper} {G : Ghost} {a : Act} (ha : ActRel st G a) {b : Bool} (h : wantV st ops o = some b) : Region.wanted o (yielded ops a.tmps) = b := by
  unfold wantV at h
  split at h
  · next hg => simp at h; subst h; simp [Region.wanted, hg]
  · next j want hg =>
    split at h
    · next d hd =>
      split at h
      · next c hc =>
        have hy := yielded_of hd ha hc
        simp at h; subst h
        simp [Region.wanted, hg, hy]
      · next vs hc =>
        have hy := yielded_none hd ha hc
        simp at h; subst h
        simp [Region.wanted, hg, hy]
      · cases h
    · cases h

theorem rel_skip (G : Ghost) : VRel G (.tuple []) undef := by simp [VRel, VRels, undef]

/-- Where all is listed. -/
theorem draw_end {esc : Nat → Bool} {ops : Array Oper} {Q : VExit → VSt → Prop} {st0 : VSt} {G0 : Ghost} {w0 : World} {D : List Deferred} {dl dh : List Nat} {hv : Option Nat} {rest : List Stage} {st : VSt} {pd : List Pend} {listed : Array Bool} {G : Ghost} {w : World} {a : Act}
    {hs : List Nat} (hmid : Mid P esc ops hs Q dl dh hv rest st pd listed) (hreal : Real ops st0 G0 w0 D dl dh st pd listed G w a) (hall : ∀ i, i < ops.size → listed.getD i false = true) : WPost st0 G0 w0 D Q .normal a w := by
  cases hv with
  | none =>
    obtain ⟨hq, _⟩ := hmid.go
    have hr2 := hreal.lands (fun _ => true) (fun p hp _ => by
      obtain ⟨_, o, ho, _⟩ := hreal.pdl p hp
      exact hall p.i (Array.getElem?_eq_some_iff.1 ho).1)
    have e : pd.filter (fun _ => true) = pd := List.filter_eq_self.2 (fun _ _ => rfl)
    rw [e] at hr2
    exact ⟨G, _, .normal, hq, trivial, hr2.mem, ⟨hr2.size, fun k => hr2.tm k fun j q hj _ _ => hall j (Array.getElem?_eq_some_iff.1 hj).1⟩, hr2.df, hr2.tr⟩
  | some h =>
    exfalso
    obtain ⟨o, ho, h1, h2, _⟩ := hmid.go
    rcases hreal.lin h (hall h (Array.getElem?_eq_some_iff.1 ho).1) with q | q
    · exact h1 q
    · exact h2 q

theorem draw_main {esc : Nat → Bool} {ops : Array Oper} {hs : List Nat} {Q : VExit → VSt → Prop} (hed : edgesOk ops = true) (hu : dstsOk ops = true) {st0 : VSt} {G0 : Ghost} {w0 : World} {D : List Deferred} (hm0 : MemOk st0.mem G0 w0) :
    ∀ (fuel : Nat) (dl dh : List Nat) (hv : Option Nat) (rest : List Stage) (st : VSt) (pd : List Pend) (listed : Array Bool) (G : Ghost) (w : World) (a : Act),
      Mid P esc ops hs Q dl dh hv rest st pd listed → Real ops st0 G0 w0 D dl dh st pd listed G w a → left listed ≤ fuel → wpAny P .any ops (WPost st0 G0 w0 D Q) fuel listed a w := by
  intro fuel
  induction fuel with
  | zero =>
    intro dl dh hv rest st pd listed G w a hmid hreal hf
    refine ⟨?_, ?_⟩
    · cases hq : Region.ready .any ops listed with
      | nil => rfl
      | cons i l =>
        exfalso
        have : i ∈ Region.ready .any ops listed := by rw [hq]; simp
        have := left_set (mem_ready.1 this).1
        omega
    · exact draw_end hmid hreal fun i hi => by
        cases hq : listed.getD i false with
        | true => rfl
        | false =>
          exfalso
          have hlt : listed.getD i true = false := by
            have : i < listed.size := by rw [hreal.lsize]; exact hi
            simpa [Array.getD_eq_getD_getElem?, this] using hq
          have := left_set hlt
          omega
  | succ fuel ih =>
    intro dl dh hv rest st pd listed G w a hmid hreal hf
    refine ⟨fun hr => draw_end hmid hreal (all_listed hed hreal.lsize hr), fun i hi => ?_⟩
    have hun := (mem_ready.1 hi).1
    obtain ⟨_, o, ho, _⟩ := mem_ready.1 hi
    have hisz : i < ops.size := (Array.getElem?_eq_some_iff.1 ho).1
    have hunf : listed.getD i false = false := by
      have : i < listed.size := by rw [hreal.lsize]; exact hisz
      simpa [Array.getD_eq_getD_getElem?, this] using hun
    have hleft := left_set hun
    have hbefl : ∀ j, bef ops i j = true → listed.getD j false = true := fun j hj => ready_bef hreal.clo hi hj
    have hmidset : ∀ (dl dh : List Nat) (hv : Option Nat) (rest : List Stage) (st : VSt) (pd : List Pend), Mid P esc ops hs Q dl dh hv rest st pd listed → Mid P esc ops hs Q dl dh hv rest st pd (listed.setIfInBounds i true) := by
      intro dl dh hv rest st pd hmid
      refine ⟨fun j hj hl => hmid.lv j hj ?_, hmid.wr, hmid.nh, hmid.go⟩
      cases hq : listed.getD j false with
      | false => rfl
      | true => rw [getD_set_true hq] at hl; cases hl
    by_cases hidl : i ∈ dl
    · -- a light one
      have hact := hreal.act
      obtain ⟨o', d, ho', hd, hdn, hfv, hval⟩ := hmid.lv i hidl hunf
      rw [ho] at ho'; cases ho'
      have hlook : ∀ t ∈ o.looksAt ops, seen ops dl dh listed st.tm t = st.tm t := fun t ht => seen_yes fun j q hj hq hd => by
        rcases hmid.wr i hidl o ho t ht j q hj hq with ⟨_, g⟩ | ⟨g, _⟩
        · exact hbefl j g
        · rcases hd with hd | hd
          · exact absurd g (hmid.nh j hd)
          · exact hreal.hin j hd
      cases hfl : isFloat o.op with
      | true =>
        -- a new object
        obtain ⟨hg, p, hp, rfl, mk, hvf, hmk⟩ := hfv hfl
        rw [← vfloat_looks (P := P) (st2 := st.withTm (seen ops dl dh listed st.tm)) hlook] at hvf
        obtain ⟨us, v, hrun, hur, huo, hv⟩ := float_sound (P := P) (w := w) hact hvf
        unfold wpOp
        rw [ho]
        simp only
        rw [if_pos (by simp [Region.wanted, hg])]
        left
        unfold Oper.wp
        rw [hrun, Oper.upon_value]
        refine ih dl dh _ rest st pd _ _ _ _ (hmidset _ _ _ _ _ _ hmid) (hreal.made hi ho hp hunf hur huo hd hdn ?_) (by omega)
        rw [hmk]
        exact hv p.r _ put_kind_same
      | false =>
        have hval := hval hfl
        have hpi : ∀ p ∈ pd, p.i ≠ i := fun p hp e => by
          obtain ⟨_, o2, ho2, hf2⟩ := hreal.pdl p hp
          rw [e, ho] at ho2; cases ho2
          rw [hfl] at hf2; cases hf2
        rw [← lval_same (P := P) (st2 := st.withTm (seen ops dl dh listed st.tm)) hlook (.inr ⟨rfl, rfl, rfl, rfl, rfl⟩)] at hval
        have step : ∀ G' w' v, VRel G' (st.tm d) v → MemOk st.mem G' w' → Trans st.mem G w st.mem G' w' → wpAny P .any ops (WPost st0 G0 w0 D Q) fuel (listed.setIfInBounds i true) (a.put o.dst v) w' := by
          intro G' w' v hv' hm' ht'
          refine ih dl dh hv rest st pd _ G' w' _ (hmidset _ _ _ _ _ _ hmid) ?_ (by omega)
          exact hreal.next hm0 hi ho hm' ht' rfl (fun _ _ _ => rfl) (fun d' hd' => by rw [hd] at hd'; cases hd'; rw [hd, put_get (by rw [hreal.size]; exact hdn)]; exact hv') (.inl hidl) (fun _ h => h) (fun _ h => .inl h) hpi
        unfold wpOp
        rw [ho]
        simp only
        unfold lval at hval
        split at hval
        · next hw =>
          rw [if_pos (wanted_of hact hw)]
          left
          obtain ⟨G', w', v', hrun, hr, m1, t1⟩ := light_sound (P := P) (st := st.withTm (seen ops dl dh listed st.tm)) hreal.mem hact hval
          unfold Oper.wp
          rw [hrun, Oper.upon_value]
          exact step G' w' v' hr m1 t1
        · next hw =>
          rw [if_neg (by rw [wanted_of hact hw]; simp)]
          simp at hval
          exact step G w undef (by rw [← hval]; exact rel_skip G) hreal.mem (Trans.refl _ G w)
        · cases hval
    · have hidh : i ∉ dh := fun h => by rw [hreal.hin i h] at hunf; cases hunf
      cases hv with
      | none =>
        obtain ⟨_, hall⟩ := hmid.go
        exact absurd (hall i hisz) (by simp [hidl, hidh])
      | some h =>
        obtain ⟨oh, hoh, hh1, hh2, hhw, hchk, hgo⟩ := hmid.go
        by_cases hih : i = h
        · -- the heavy one
          subst hih
          rw [ho] at hoh; cases hoh
          obtain ⟨k1, k2, k3⟩ := lands_keep (landed ops i pd) st
          -- what it waits for is known from here on
          have hrealL : Real ops st0 G0 w0 D dl dh (st.lands (landed ops i pd)) (waiting ops i pd) listed G w a :=
            hreal.lands (fun p => bef ops i p.i) (fun p _ hb => hbefl p.i hb)
          generalize hstL : st.lands (landed ops i pd) = stL at hrealL hgo k1 k2 k3
          have hact := hrealL.act
          have hlook : ∀ t ∈ o.looksAt ops, seen ops dl dh listed stL.tm t = stL.tm t := fun t ht => seen_yes fun j q hj hq hd => by
            rcases hhw t ht j q hj hq with ⟨_, g⟩ | ⟨g, _⟩
            · exact hbefl j g
            · rcases hd with hd | hd
              · exact absurd g (hmid.nh j hd)
              · exact hreal.hin j hd
          have hwsame := wantV_same (st := stL) (st2 := stL.withTm (seen ops dl dh listed stL.tm)) hlook
          have hpi : ∀ p ∈ waiting ops i pd, p.i ≠ i := fun p hp e => hidl (by rw [← e]; exact (hrealL.pdl p hp).1)
          -- what lies behind it
          have after : ∀ (G' : Ghost) (w' : World) (v : Value) (st2 : VSt), VStages P esc ops Q rest st2 (waiting ops i pd) → MemOk st2.mem G' w' → Trans stL.mem G w st2.mem G' w' → st2.n = stL.n → (∀ t, o.dst ≠ some t → st2.tm t = stL.tm t) →
              (∀ d, o.dst = some d → VRel G' (st2.tm d) ((a.put o.dst v).tmps.getD d undef)) → wpAny P .any ops (WPost st0 G0 w0 D Q) fuel (listed.setIfInBounds i true) (a.put o.dst v) w' := by
            intro G' w' v st2 hst2 hm2 ht2 hn2 htm2 hd2
            have hr2 : Real ops st0 G0 w0 D dl (i :: dh) st2 (waiting ops i pd) (listed.setIfInBounds i true) G' w' (a.put o.dst v) :=
              hrealL.next hm0 hi ho hm2 ht2 hn2 (fun t ht _ => htm2 t ht) hd2 (.inr (by simp)) (fun j hj => List.mem_cons_of_mem _ hj)
                (fun j hj => (List.mem_cons.1 hj).symm) hpi
            obtain ⟨dl', hv', rest', st3, pd3, G3, hmid3, hreal3⟩ := Mid.stage (P := P) hu hm0 hchk hst2 hr2
              (fun j hj o' ho' t ht k q hk hq => by
                rcases hmid.wr j hj o' ho' t ht k q hk hq with ⟨g1, g2⟩ | g
                · exact .inl ⟨g1.imp id (List.mem_cons_of_mem _), g2⟩
                · exact .inr g)
              hmid.nh
              (fun j hj hjl => by
                have hjl0 : listed.getD j false = false := by
                  cases hq : listed.getD j false with
                  | false => rfl
                  | true => rw [getD_set_true hq] at hjl; cases hjl
                obtain ⟨oj, dj, hoj, hdj, hdjn, hfvj, hvalj⟩ := hmid.lv j hj hjl0
                have hne : ∀ t, (∀ q, ops[i]? = some q → q.dst = some t → False) → st2.tm t = st.tm t := fun t hq => by rw [htm2 t fun e => hq o ho e, k2]
                have hnl : ∀ t ∈ oj.looksAt ops, st2.tm t = st.tm t := fun t ht => hne t fun q hq hqd => by
                  rcases hmid.wr j hj oj hoj t ht i q hq hqd with ⟨r | r, _⟩ | ⟨_, r⟩
                  · exact hidl r
                  · exact hidh r
                  · rw [hbefl j r] at hjl0; cases hjl0
                have hno : st2.tm dj = st.tm dj := hne dj fun q hq hqd => by
                  have := dstsOk_spec hu hq hoj hqd hdj
                  subst this; exact hidl hj
                refine ⟨oj, dj, hoj, hdj, by rw [hn2, k1]; exact hdjn, fun hfl => ?_, fun hfl hop => ?_, ?_⟩
                · obtain ⟨f1, p, f2, f3, mk, f4, f5⟩ := hfvj hfl
                  refine ⟨f1, p, List.mem_filter.2 ⟨f2, ?_⟩, f3, mk, by rw [vfloat_looks (P := P) hnl]; exact f4, by rw [hno]; exact f5⟩
                  cases hb : bef ops i p.i with
                  | false => rfl
                  | true => rw [f3] at hb; rw [hbefl j hb] at hjl0; cases hjl0
                · rw [hno, ← hvalj hfl]
                  exact lval_same hnl (.inl hop)
                · cases hb : headBef ops (i :: dh) j with
                  | false => rfl
                  | true => rw [hbefl j hb] at hjl0; cases hjl0)
            exact ih dl' (i :: dh) hv' rest' st3 pd3 _ G3 w' _ hmid3 hreal3 (by omega)
          unfold wpOp
          rw [ho]
          simp only
          unfold VGuarded at hgo
          split at hgo
          · next hw =>
            rw [if_pos (wanted_of hact (hwsame.trans hw))]
            left
            have hstep := VStep.remix (tm2 := seen ops dl dh listed stL.tm) hgo (sameEv_of hlook)
            have hs := Oper.wp_shape (step_sound (P := P) hstep hrealL.mem hact)
            refine Oper.wp_mono hs ?_ ?_
            · rintro a1 w1 ⟨⟨G1, st1, hn1, m1, r1, d1, t1⟩, hshape⟩
              have hv' : ∃ v, a1 = a.put o.dst v := by
                rcases hshape with q | ⟨dd, q⟩
                · exact q
                · exfalso
                  have := congrArg List.length (q.symm.trans d1)
                  simp at this
              obtain ⟨v, rfl⟩ := hv'
              refine after G1 w1 v (Pv.remix stL.tm o.dst st1) hn1 m1 t1 ?_ ?_ ?_
              · have := r1.size
                have h2 := hrealL.size
                show st1.n = stL.n
                rw [← this, ← h2]
                cases o.dst <;> simp [Act.put]
              · intro t ht; simp [Pv.remix, mixTm, ht]
              · intro d hd
                have := r1.tm d
                have h3 : (Pv.remix stL.tm o.dst st1).tm d = st1.tm d := by simp [Pv.remix, mixTm, hd]
                rw [h3]
                exact this
            · rintro e a1 w1 ⟨⟨G1, st1, v, hq, he, m1, r1, d1, t1⟩, hshape⟩
              have ha1 : a1 = a := by
                rcases hshape with q | q
                · exact q
                · subst q; exact he.elim
              subst ha1
              refine ⟨G1, _, .panic v, hq, he, m1, ⟨?_, fun k => ?_⟩, by rw [d1]; exact hrealL.df, hrealL.tr.trans hm0 t1⟩
              · have := r1.size; exact this
              · show VRel G1 (maskTm ops stL.tm k) _
                unfold maskTm
                split
                · simp only [VRel]
                · next hany =>
                  exact VRel.mono t1.ext (hrealL.tm k fun j q hj hq _ => by
                    exfalso
                    apply hany
                    rw [Array.any_eq_true]
                    obtain ⟨hjs, hje⟩ := Array.getElem?_eq_some_iff.1 hj
                    exact ⟨j, hjs, by rw [hje, hq]; simp⟩)
          · next hw =>
            rw [if_neg (by rw [wanted_of hact (hwsame.trans hw)]; simp)]
            cases hd : o.dst with
            | none =>
              simp only [VPut, hd] at hgo
              have := after G w undef stL hgo hrealL.mem (Trans.refl _ G w) rfl (fun _ _ => rfl) (fun d h => by rw [hd] at h; cases h)
              rwa [hd] at this
            | some d =>
              simp only [VPut, hd] at hgo
              have := after G w undef (stL.put d (.tuple [])) hgo.2 hrealL.mem (Trans.refl _ G w) rfl (fun t ht => by
                have : t ≠ d := fun e => ht (by rw [hd, e])
                simp [VSt.put, upd_ne _ _ this]) (fun d' h => by rw [hd] at h; cases h; rw [hd, put_get (by rw [hrealL.size]; exact hgo.1)]; simp only [VSt.put, upd_same]; exact rel_skip G)
              rwa [hd] at this
          · exact hgo.elim
        · -- none else is ready
          exfalso
          rcases chk_later hchk i hisz with q | q | q
          · exact hidl q
          · rcases List.mem_cons.1 q with q | q
            · exact hih q
            · exact hidh q
          · have := hbefl h (q h (by simp))
            rcases hreal.lin h this with r | r
            · exact hh1 r
            · exact hh2 r

end Go.Pv

/- A region that draws its order: the rule. -/
namespace Go.Pv
variable {P : Program}

theorem draw_any {esc : Nat → Bool} {ops : Array Oper} {Q : VExit → VSt → Prop} {st : VSt} (plan : List Stage) (hp : planOk ops plan = true) (h : VStages P esc ops Q plan st [])
    {G : Ghost} {w : World} {a : Act} (hm : MemOk st.mem G w) (ha : ActRel st G a) : wpAny P .any ops (WPost st G w a.defers Q) ops.size (Array.replicate ops.size false) a w.drew := by
  unfold planOk at hp
  simp only [Bool.and_eq_true] at hp
  obtain ⟨⟨hed, hu⟩, hc⟩ := hp
  have hf : ∀ i, (Array.replicate ops.size false).getD i false = false := fun i => by
    simp only [Array.getD_eq_getD_getElem?, Array.getElem?_replicate]
    split <;> rfl
  have hreal : Real ops st G w a.defers [] [] st [] (Array.replicate ops.size false) G w.drew a :=
    { mem := hm.drew
      tr := Trans.drew _ _ _
      size := ha.size
      tm := fun t _ => ha.tm t
      lsize := by simp
      lin := fun i hi => by rw [hf i] at hi; cases hi
      hin := fun i hi => by cases hi
      clo := fun i o _ hi => by rw [hf i] at hi; cases hi
      df := rfl
      pok := fun p hp => by cases hp
      pdd := List.Pairwise.nil
      pdl := fun p hp => by cases hp }
  obtain ⟨dl', hv, rest', st', pd', G', hmid, hreal'⟩ := Mid.stage (P := P) hu hm hc h hreal (fun i hi => by cases hi) (fun i hi => by cases hi) (fun i hi => by cases hi)
  refine draw_main (D := a.defers) hed hu hm ops.size dl' [] hv rest' st' pd' _ G' w.drew a hmid hreal' ?_
  unfold left
  simp

theorem vw_draw {esc : Nat → Bool} {id : Nat} {ops : Array Oper} {Q : VExit → VSt → Prop} {st : VSt} (plan : List Stage) (hmix : P.follows .mixedOrders = true) (hp : planOk ops plan = true) (h : VStages P esc ops Q plan st []) :
    VW P (.region id ops true) Q st := fun _ _ _ hm ha => wp_region_any hmix (draw_any plan hp h hm ha)

end Go.Pv

/- The triple over code in any frame, rounds of a range over a function too, with deferred calls. -/
namespace Go.Pv
variable {P : Program}

def W (r : Option Nat) : Fence := { Fence.wide with round := r }

theorem calls_W {r : Option Nat} {n : Nat} {f : FuncId} {args : Array Value} {w : World} {R : Ending → World → Prop} : CallsIn (W r) n P f args w R ↔ Calls P f args w R := callsIn_wide (n := n) (P := P)

theorem room_W (r : Option Nat) (n : Nat) : (W r).room n := room_wide n

theorem rows_W {r : Option Nat} {n : Nat} {row : String} {args : Array Value} {w : World} {R : Value → World → Prop} (h : Rows P row args w R) : RowsIn (W r) n P row args w R := by
  intro c cs _
  obtain ⟨v, w', hR, hs⟩ := h c cs
  exact ⟨v, w', hR, stepsIn_wide.2 hs⟩

theorem wpIn_of_wp {r : Option Nat} {o : Oper} {a : Act} {w : World} {next : Act → World → Prop} {Q : Exit → Act → World → Prop} (hd : ∀ c, o.op ≠ .defer c) (h : o.wp P a w next Q) : o.wpIn (W r) 0 P a w next Q := by
  refine ⟨fun _ _ => trivial, ?_⟩
  rw [Oper.semAt_eq _ _ _ hd]
  unfold Oper.wp at h
  cases hr : (execOp a.eval o).run P w with
  | ok x w1 =>
    rw [hr] at h
    cases x <;> simp only [Oper.upon] at h <;> simp only [Oper.uponIn]
    case value v => exact h
    case skip => exact h
    case defer d => exact h
    case enter f args =>
      refine ⟨fun q => by simp [W, Fence.wide] at q, calls_W.2 (h.mono fun e w2 he => ?_)⟩
      cases e <;> exact he
    case row row args => exact ⟨fun q => by simp [W, Fence.wide] at q, rows_W h⟩
  | halt x w1 =>
    rw [hr] at h
    cases x <;> simp only [Oper.upon] at h <;> simp only [Oper.uponIn]
    exact h

def noDefer (ops : Array Oper) : Bool := ops.all fun o => match o.op with | .defer _ => false | _ => true

theorem noDefer_spec {ops : Array Oper} (h : noDefer ops = true) {i : Nat} {o : Oper} (ho : ops[i]? = some o) : ∀ c, o.op ≠ .defer c := by
  intro c he
  have := Array.all_eq_true_iff_forall_mem.1 h o (Array.mem_of_getElem? ho)
  simp [he] at this

theorem wpOpsIn_of_wpOps {r : Option Nat} {ops : Array Oper} {Q : Exit → Act → World → Prop} (hQ : ¬ LetsOut Q) (hd : noDefer ops = true) : ∀ {l : List Nat} {a : Act} {w : World}, wpOps P ops Q l a w → wpOpsIn (W r) 0 P ops Q l a w
  | [], _, _, h => h
  | i :: rest, a, w, h => by
    simp only [wpOps] at h
    simp only [wpOpsIn]
    split
    · next ho => rw [ho] at h; exact wpOpsIn_of_wpOps hQ hd h
    · next o ho =>
      rw [ho] at h
      simp only at h
      split
      · next hw =>
        rw [if_pos hw] at h
        rcases h with h | ⟨_, h⟩
        · exact wpIn_of_wp (noDefer_spec hd ho) (Oper.wp_mono h (fun a w q => wpOpsIn_of_wpOps hQ hd q) (fun _ _ _ q => q))
        · exact absurd h hQ
      · next hw => rw [if_neg hw] at h; exact ⟨fun _ _ => trivial, wpOpsIn_of_wpOps hQ hd h⟩

theorem wpAnyIn_of_wpAny {r : Option Nat} {ops : Array Oper} {Q : Exit → Act → World → Prop} (hQ : ¬ LetsOut Q) (hd : noDefer ops = true) : ∀ {fuel : Nat} {listed : Array Bool} {a : Act} {w : World}, wpAny P .any ops Q fuel listed a w → wpAnyIn (W r) 0 P .any ops Q fuel listed a w
  | 0, _, _, _, h => h
  | fuel + 1, listed, a, w, h => by
    obtain ⟨h1, h2⟩ := h
    refine ⟨h1, fun i hi => ?_⟩
    have h := h2 i hi
    unfold wpOp at h
    unfold wpOpIn
    split
    · next ho => rw [ho] at h; exact wpAnyIn_of_wpAny hQ hd h
    · next o ho =>
      rw [ho] at h
      simp only at h
      split
      · next hw =>
        rw [if_pos hw] at h
        rcases h with h | ⟨_, h⟩
        · exact wpIn_of_wp (noDefer_spec hd ho) (Oper.wp_mono h (fun a w q => wpAnyIn_of_wpAny hQ hd q) (fun _ _ _ q => q))
        · exact absurd h hQ
      · next hw => rw [if_neg hw] at h; exact ⟨fun _ _ => trivial, wpAnyIn_of_wpAny hQ hd h⟩

/-- A deferred call. -/
inductive VDef where
  | call (k : FuncId) (args : List VVal)
  | mark (o : Nat)

def DefRel (G : Ghost) : VDef → Deferred → Prop
  | .call k args, d => ∃ cap : Array Value, d.target = .fn (.func k) cap ∧ VRels G args (d.args ++ cap).toList
  | .mark o, d => ∃ b, G.kind b = .obj o ∧ d.target = .collected b ∧ d.args = #[]

def DefsRel (G : Ghost) : List VDef → List Deferred → Prop
  | [], l => l = []
  | x :: xs, l => ∃ y ys, l = y :: ys ∧ DefRel G x y ∧ DefsRel G xs ys

theorem DefsRel.mono {G G' : Ghost} (h : Ext G G') : ∀ {xs : List VDef} {ys : List Deferred}, DefsRel G xs ys → DefsRel G' xs ys
  | [], _, k => k
  | x :: xs, _, k => by
    obtain ⟨y, ys, rfl, h1, h2⟩ := k
    refine ⟨y, ys, rfl, ?_, DefsRel.mono h h2⟩
    cases x with
    | call k args => obtain ⟨cap, e1, e2⟩ := h1; exact ⟨cap, e1, VRels.mono h e2⟩
    | mark o => obtain ⟨b, e1, e2⟩ := h1; exact ⟨b, h.obj _ _ e1, e2⟩

def XQ := VExit → VSt → List VDef → Prop

def XPost (st : VSt) (G : Ghost) (w : World) (Q : XQ) (e : Exit) (a' : Act) (w' : World) : Prop :=
  ∃ G' st' df' e', Q e' st' df' ∧ ExitRel G' e' e ∧ MemOk st'.mem G' w' ∧ ActRel st' G' a' ∧ DefsRel G' df' a'.defers ∧ Trans st.mem G w st'.mem G' w'

/-- Code, virtually, in any frame ('rd': in a round's, too). -/
def VX (P : Program) (rd : Bool) (c : Code) (Q : XQ) (st : VSt) (df : List VDef) : Prop :=
  ∀ (r : Option Nat) (G : Ghost) (w : World) (a : Act), (rd = false → r = none) → MemOk st.mem G w → ActRel st G a → DefsRel G df a.defers → c.wpIn (W r) 0 P (XPost st G w Q) a w

section rules
variable {Q : XQ} {st : VSt} {df : List VDef} {rd : Bool}

theorem VX.mono {c : Code} {Q' : XQ} (h : VX P rd c Q st df) (hq : ∀ e st' df', Q e st' df' → Q' e st' df') : VX P rd c Q' st df :=
  fun r G w a hr hm ha hd => wpIn_mono (h r G w a hr hm ha hd) fun _ _ _ ⟨G', st', df', e', q, t⟩ => ⟨G', st', df', e', hq _ _ _ q, t⟩

theorem XPost.here {e' : VExit} {e : Exit} (h : Q e' st df) {G : Ghost} {w : World} {a : Act} (hm : MemOk st.mem G w) (ha : ActRel st G a) (hd : DefsRel G df a.defers) (he : ExitRel G e' e) : XPost st G w Q e a w :=
  ⟨G, st, df, e', h, he, hm, ha, hd, Trans.refl _ G w⟩

theorem vx_skip (h : Q .normal st df) : VX P rd .skip Q st df := fun _ _ _ _ _ hm ha hd => wpIn_skip (.here h hm ha hd trivial)
theorem vx_label {l : Nat} (h : Q .normal st df) : VX P rd (.label l) Q st df := fun _ _ _ _ _ hm ha hd => wpIn_label (.here h hm ha hd trivial)
theorem vx_exit {id : Nat} (h : Q (.exit id) st df) : VX P rd (.exit id) Q st df := fun _ _ _ _ _ hm ha hd => wpIn_exit (.here h hm ha hd rfl)
theorem vx_goto {id : Nat} (h : Q (.goto id) st df) : VX P rd (.goto id) Q st df := fun _ _ _ _ _ hm ha hd => wpIn_goto (.here h hm ha hd rfl)
theorem vx_ret (h : Q .ret st df) : VX P rd .ret Q st df := fun _ _ _ _ _ hm ha hd => wpIn_ret (.here h hm ha hd trivial)

def xthen (next : VSt → List VDef → Prop) (Q : XQ) : XQ
  | .normal, st, df => next st df
  | e, st, df => Q e st df

theorem XPost.trans {st1 : VSt} {G G1 : Ghost} {w w1 : World} (hm : MemOk st.mem G w) (t : Trans st.mem G w st1.mem G1 w1) {e : Exit} {a' : Act} {w' : World} (h : XPost st1 G1 w1 Q e a' w') : XPost st G w Q e a' w' := by
  obtain ⟨G', st', df', e', q, he, m, r, d, t'⟩ := h
  exact ⟨G', st', df', e', q, he, m, r, d, t.trans hm t'⟩

theorem vx_seq {x y : Code} (h : VX P rd x (xthen (fun st' df' => VX P rd y Q st' df') Q) st df) : VX P rd (.seq x y) Q st df := by
  intro r G w a hr hm ha hd
  refine wpIn_seq (wpIn_mono (h r G w a hr hm ha hd) ?_)
  rintro e a1 w1 ⟨G1, st1, df1, e1, q, he, m1, r1, d1, t1⟩
  cases e <;> cases e1 <;> simp only [ExitRel] at he <;> simp only [Exit.then]
  · exact wpIn_mono (q r G1 w1 a1 hr m1 r1 d1) fun e a2 w2 h2 => h2.trans hm t1
  all_goals exact ⟨G1, st1, df1, _, q, he, m1, r1, d1, t1⟩

theorem vx_cond {c : Operand} {x y : Code} {b : Bool} (hc : st.ev c = .bool b) (h : VX P rd (if b then x else y) Q st df) : VX P rd (.cond c x y) Q st df := by
  intro r G w a hr hm ha hd
  have hcr := ha.ev c
  rw [hc] at hcr
  simp only [VRel] at hcr
  exact wpIn_cond hcr (h r G w a hr hm ha hd)

def xblock (id : Nat) (Q : XQ) : XQ
  | .exit id', st, df => if id' = id then Q .normal st df else Q (.exit id') st df
  | e, st, df => Q e st df

theorem vx_block {id : Nat} {c : Code} (h : VX P rd c (xblock id Q) st df) : VX P rd (.block id c) Q st df := by
  intro r G w a hr hm ha hd
  refine wpIn_block (wpIn_mono (h r G w a hr hm ha hd) ?_)
  rintro e a1 w1 ⟨G1, st1, df1, e1, q, he, m1, r1, d1, t1⟩
  cases e <;> cases e1 <;> simp only [ExitRel] at he <;> simp only [Exit.inBlock]
  · exact ⟨G1, st1, df1, .normal, q, trivial, m1, r1, d1, t1⟩
  · subst he
    simp only [xblock] at q
    split
    · next e => rw [if_pos e] at q; exact ⟨G1, st1, df1, .normal, q, trivial, m1, r1, d1, t1⟩
    · next e => rw [if_neg e] at q; exact ⟨G1, st1, df1, .exit _, q, rfl, m1, r1, d1, t1⟩
  all_goals exact ⟨G1, st1, df1, _, q, he, m1, r1, d1, t1⟩

theorem wpIn_loop_idx {F : Fence} {nn : Nat} {Q : Exit → Act → World → Prop} {c : Code} {a : Act} {w : World} (I : Nat → Act → World → Prop) {n : Nat} (h0 : I n a w)
    (round : ∀ n a w, I n a w → c.wpIn F nn P (Exit.then (fun a' w' => ∃ m, m < n ∧ I m a' w') Q) a w) : (Code.loop c).wpIn F nn P Q a w := by
  intro b k cs hro hb hr
  have key : ∀ n a w, I n a w → ∃ e a' w', Q e a' w' ∧ ArrivesIn (Machine.fenced P F) P (lone (b.atR a (.code c :: .inLoop c :: k)) cs w) b k cs e a' w' := by
    intro n
    induction n using Nat.strongRecOn with
    | _ n ih =>
      intro a w hI
      obtain ⟨e, a1, w1, hq, harr⟩ := round n a w hI b (.inLoop c :: k) cs hro hb hr
      cases e with
      | normal =>
        obtain ⟨m, hlt, hI1⟩ := hq
        obtain ⟨e2, a2, w2, hq2, harr2⟩ := ih m hlt a1 w1 hI1
        exact ⟨e2, a2, w2, hq2, .of_steps (StepsIn.trans harr (.one (fenced_calm hb hr rfl) stepR_inLoop)) harr2⟩
      | exit id => exact ⟨_, a1, w1, hq, .pass (x := .inLoop c) rfl (fun _ _ => .inl (by simp)) harr⟩
      | goto l => exact ⟨_, a1, w1, hq, .pass (x := .inLoop c) rfl (fun _ _ => .inl (by simp)) harr⟩
      | ret => exact ⟨_, a1, w1, hq, .pass (x := .inLoop c) rfl (fun _ _ => .inl (by simp)) harr⟩
      | panic ch => exact ⟨_, a1, w1, hq, .pass (x := .inLoop c) rfl (fun _ _ => .inl (by simp)) harr⟩
      | outgrown => exact ⟨_, a1, w1, hq, .pass (x := .inLoop c) rfl (fun _ _ => .inl (by simp)) harr⟩
  obtain ⟨e, a', w', hq, harr⟩ := key n a w h0
  exact ⟨e, a', w', hq, .of_steps (.one (fenced_calm hb hr rfl) stepR_loop) harr⟩

theorem vx_loop {c : Code} (I : Nat → VSt → List VDef → Prop) {n : Nat} (h0 : I n st df) (round : ∀ n st df, I n st df → VX P rd c (xthen (fun st' df' => ∃ m, m < n ∧ I m st' df') Q) st df) : VX P rd (.loop c) Q st df := by
  intro r G w a hr hm ha hd
  refine wpIn_loop_idx (I := fun m a' w' => ∃ G' st' df', I m st' df' ∧ MemOk st'.mem G' w' ∧ ActRel st' G' a' ∧ DefsRel G' df' a'.defers ∧ Trans st.mem G w st'.mem G' w')
    (n := n) ⟨G, st, df, h0, hm, ha, hd, Trans.refl _ G w⟩ ?_
  rintro m a1 w1 ⟨G1, st1, df1, hI, m1, r1, d1, t1⟩
  refine wpIn_mono (round m st1 df1 hI r G1 w1 a1 hr m1 r1 d1) ?_
  rintro e a2 w2 ⟨G2, st2, df2, e2, q, he, m2, r2, d2, t2⟩
  cases e <;> cases e2 <;> simp only [ExitRel] at he <;> simp only [Exit.then]
  · obtain ⟨m', hlt, hI'⟩ := q
    exact ⟨m', hlt, G2, st2, df2, hI', m2, r2, d2, t1.trans hm t2⟩
  all_goals exact ⟨G2, st2, df2, _, q, he, m2, r2, d2, t1.trans hm t2⟩

theorem not_letsOut {st : VSt} {G : Ghost} {w : World} {D : List Deferred} {Q : VExit → VSt → Prop} : ¬ LetsOut (WPost st G w D Q) := by
  rintro ⟨a, w', G', st', e', _, he, _⟩
  cases e' <;> exact he.elim

theorem WPost.toX {G : Ghost} {w : World} {D : List Deferred} (hd : DefsRel G df D) {e : Exit} {a' : Act} {w' : World} (h : WPost st G w D (fun e st' => Q e st' df) e a' w') : XPost st G w Q e a' w' := by
  obtain ⟨G', st', e', q, he, m, r, d, t⟩ := h
  exact ⟨G', st', df, e', q, he, m, r, by rw [d]; exact hd.mono t.ext, t⟩

/-- A region in the text's order. -/
theorem vx_region {esc : Nat → Bool} {id : Nat} {ops : Array Oper} (hnd : noDefer ops = true) (h : VOps P esc ops (fun e st' => Q e st' df) ops.toList st) : VX P rd (.region id ops false) Q st df := by
  intro r G w a hr hm ha hd
  have := ops_sound (P := P) ops.toList 0 (by simp) st G w a h hm ha
  rw [Array.length_toList, ← List.range_eq_range'] at this
  exact wpIn_mono (wpIn_region (wpOpsIn_of_wpOps not_letsOut hnd this)) fun _ _ _ q => q.toX hd

/-- A region that draws its order. -/
theorem vx_draw {esc : Nat → Bool} {id : Nat} {ops : Array Oper} (plan : List Stage) (hmix : P.follows .mixedOrders = true) (hnd : noDefer ops = true) (hp : planOk ops plan = true)
    (h : VStages P esc ops (fun e st' => Q e st' df) plan st []) : VX P rd (.region id ops true) Q st df := by
  intro r G w a hr hm ha hd
  exact wpIn_mono (wpIn_region_any hmix (wpAnyIn_of_wpAny not_letsOut hnd (draw_any plan hp h hm ha))) fun _ _ _ q => q.toX hd

end rules
end Go.Pv

/- Functions with deferred calls: how they leave. -/
namespace Go.Pv
variable {P : Program}

/-- A function that begins by asking recover for what there is, as a deferred call. -/
def VRecover (P : Program) (k : FuncId) (args : List VVal) (m : Option VVal) (h : VHeap) (next : VHeap → Prop) : Prop :=
  ∃ fn id o0 o1 c tail d0 d1, P.funcs[k]? = some fn ∧ (fn.name == "runtime.NumGoroutine") = false ∧ fn.body = some (.seq (.region id #[o0, o1] false) tail) ∧ args.length ≤ fn.ntmps ∧
    o0.op = .call c ∧ c.callee = .builtin .recover ∧ c.args = #[] ∧ o0.guard = none ∧ o0.dst = some d0 ∧ o1.op = .assign (.tmp d0) ∧ o1.guard = none ∧ o1.dst = some d1 ∧ d0 < fn.ntmps ∧ d1 < fn.ntmps ∧
    VX P false tail (fun e st' df' => (match e with | .normal => True | .ret => True | _ => False) ∧ df' = [] ∧ (∃ v, vresults P fn st' = some v) ∧ next st'.h)
      (((VSt.start fn args h).put d0 (m.getD .nilIface)).put d1 (m.getD .nilIface)) []

def ModeRel (G : Ghost) : Option VVal → FrameMode → Prop
  | none, u => u = .returning
  | some v, u => ∃ e, u = .panicking [e] ∧ VRel G v e.v ∧ e.recovered = false ∧ e.goexit = false

theorem ModeRel.mono {G G' : Ghost} (h : Ext G G') : ∀ {m : Option VVal} {u : FrameMode}, ModeRel G m u → ModeRel G' m u
  | none, _, k => k
  | some _, _, ⟨e, h1, h2, h3⟩ => ⟨e, h1, VRel.mono h h2, h3⟩

theorem start_act {fn : Func} {args : List VVal} {h : VHeap} {G : Ghost} {rargs : Array Value} (hl : args.length ≤ fn.ntmps) (hr : VRels G args rargs.toList) (ds : List Deferred) :
    ActRel (VSt.start fn args h) G { tmps := rargs ++ Array.replicate (fn.ntmps - rargs.size) undef, defers := ds } := by
  have hlen := hr.length
  simp only [Array.length_toList] at hlen
  refine ⟨by simp [VSt.start]; omega, fun k => ?_⟩
  simp only [VSt.start, Array.getD_eq_getD_getElem?]
  by_cases hk : k < args.length
  · obtain ⟨u, hu, hru⟩ := hr.get (List.getElem?_eq_getElem hk)
    have hu' : rargs[k]? = some u := by simpa using hu
    rw [Array.getElem?_append_left (by omega), hu']
    simpa [List.getD, List.getElem?_eq_getElem hk] using hru
  · simp [List.getD, List.getElem?_eq_none (Nat.le_of_not_lt hk), VRel]

theorem VRecover.sound {k : FuncId} {args : List VVal} {m : Option VVal} {h : VHeap} {next : VHeap → Prop} (hv : VRecover P k args m h next) {G : Ghost} {w : World} {rargs : Array Value} {u : FrameMode}
    (hm : MemOk h.mem G w) (hr : VRels G args rargs.toList) (hu : ModeRel G m u) :
    (callFunc k rargs).run P w = .ok (.enter k rargs) w ∧
    CallsDIn (W none) 0 P k rargs u w (fun e u' w' => match e with
      | .returned _ => settle u' = .returning ∧ ∃ G' h', next h' ∧ MemOk h'.mem G' w' ∧ Trans h.mem G w h'.mem G' w'
      | _ => False) := by
  obtain ⟨fn, id, o0, o1, c, tail, d0, d1, hf, hnm, hb, hl, hop0, hcal, hcargs, hg0, hd0, hop1, hg1, hd1, hn0, hn1, hx⟩ := hv
  refine ⟨callFunc_enter hf hb hnm rargs w, callsDIn_of_wpSIn hf hb trivial fun c₀ cs hc => ?_⟩
  have hact0 := start_act (h := h) hl hr []
  generalize ha0 : ({ tmps := rargs ++ Array.replicate (fn.ntmps - rargs.size) undef, defers := [] } : Act) = a0 at hact0
  have hdef0 : a0.defers = [] := by rw [← ha0]
  -- what lies behind recover
  have tailOk : ∀ (v : Value) (u' : FrameMode), VRel G (m.getD .nilIface) v → settle u' = .returning →
      tail.wpSIn (W none) 0 P (bodyPostS P fn c₀ cs (fun e u' w' => match e with
        | .returned _ => settle u' = .returning ∧ ∃ G' h', next h' ∧ MemOk h'.mem G' w' ∧ Trans h.mem G w h'.mem G' w'
        | _ => False)) ((a0.put (some d0) v).put (some d1) v) ({ c₀ with mode := u' } :: cs) w := by
    intro v u' hv hs
    refine wpSIn_of_wpIn rfl ?_
    have hact : ActRel (((VSt.start fn args h).put d0 (m.getD .nilIface)).put d1 (m.getD .nilIface)) G ((a0.put (some d0) v).put (some d1) v) := (hact0.put hn0 hv).put hn1 hv
    refine wpIn_mono (hx none G w _ (fun _ => rfl) hm hact (by simp [Act.put, hdef0, DefsRel])) ?_
    rintro e a' w' ⟨G', st', df', e', ⟨he', hdf, ⟨rv, hrv⟩, hnext⟩, he, m', r', d', t'⟩
    subst hdf
    have fin : a'.defers = [] ∧ ∃ u'', ({ c₀ with mode := u' } :: cs : List Frame) = { c₀ with mode := u'' } :: cs ∧ ∃ v, (results fn a'.tmps).run P w' = .ok v w' ∧ (settle u'' = .returning ∧ ∃ G' h', next h' ∧ MemOk h'.mem G' w' ∧ Trans h.mem G w h'.mem G' w') := by
      obtain ⟨v', h1, _⟩ := vresults_sound (P := P) m' r' hrv
      exact ⟨d', u', rfl, v', h1, hs, G', st'.h, hnext, m'.sub (heap_sub st'), Trans.trans (M1 := st'.mem) hm t' (Trans.sub _ _ (heap_sub st'))⟩
    cases e <;> cases e' <;> simp only [ExitRel] at he <;> first | exact he'.elim | exact fin
  -- recover itself
  have hrec : ∀ a, (execOp a o0).run P w = .ok .recover w := by
    intro a
    obtain ⟨dst, op, type, pos, after, guard⟩ := o0
    simp only at hop0
    subst hop0
    obtain ⟨callee, cargs, ctys⟩ := c
    simp only at hcal hcargs
    subst hcal hcargs
    simp [execOp, resolve, invoke, builtin]
  have hasg : ∀ a : Operand → Value, (execOp a o1).run P w = .ok (.value (a (.tmp d0))) w := by
    intro a
    obtain ⟨dst, op, type, pos, after, guard⟩ := o1
    simp only at hop1
    subst hop1
    simp [execOp]
  refine wpSIn_seq (wpSIn_region ?_)
  have hw0 : ∀ y, Region.wanted o0 y = true := fun y => by simp [Region.wanted, hg0]
  have hw1 : ∀ y, Region.wanted o1 y = true := fun y => by simp [Region.wanted, hg1]
  have hsz : a0.tmps.size = fn.ntmps := hact0.size
  have hev : ∀ v, (a0.put (some d0) v).eval (.tmp d0) = v := fun v => by
    simp [Act.eval, Act.put, Array.getD_eq_getD_getElem?, hsz, hn0]
  have run : ∀ v cs', wpOpsSIn (W none) 0 P #[o0, o1] (Exit.thenS (tail.wpSIn (W none) 0 P (bodyPostS P fn c₀ cs (fun e u' w' => match e with
        | .returned _ => settle u' = .returning ∧ ∃ G' h', next h' ∧ MemOk h'.mem G' w' ∧ Trans h.mem G w h'.mem G' w'
        | _ => False))) (bodyPostS P fn c₀ cs (fun e u' w' => match e with
        | .returned _ => settle u' = .returning ∧ ∃ G' h', next h' ∧ MemOk h'.mem G' w' ∧ Trans h.mem G w h'.mem G' w'
        | _ => False))) [1] (a0.put o0.dst v) cs' w ↔ tail.wpSIn (W none) 0 P (bodyPostS P fn c₀ cs (fun e u' w' => match e with
        | .returned _ => settle u' = .returning ∧ ∃ G' h', next h' ∧ MemOk h'.mem G' w' ∧ Trans h.mem G w h'.mem G' w'
        | _ => False)) ((a0.put (some d0) v).put (some d1) v) cs' w := by
    intro v cs'
    simp only [wpOpsSIn]
    simp only [List.getElem?_toArray, List.getElem?_cons_succ, List.getElem?_cons_zero, hw1, if_true, hasg, hd0, hd1, hev, Exit.thenS]
    simp [W, Fence.wide]
  rw [show List.range (#[o0, o1] : Array Oper).size = [0, 1] from rfl]
  unfold wpOpsSIn
  simp only [List.getElem?_toArray, List.getElem?_cons_zero, hw0, if_true, hrec]
  refine ⟨fun _ _ => trivial, ?_⟩
  cases m with
  | none =>
    simp only [ModeRel] at hu
    subst hu
    have : recoverD (c₀ :: cs) = none := by simp [recoverD, hc]
    simp only [this]
    refine (run .nilIface (c₀ :: cs)).2 ?_
    have h0 := tailOk .nilIface .returning (by simp [VRel]) rfl
    have hc0 : ({ c₀ with mode := .returning } : Frame) = c₀ := by rw [← hc]
    rw [hc0] at h0
    exact h0
  | some v =>
    obtain ⟨e, rfl, hve, hr1, hr2⟩ := hu
    obtain ⟨ev, er, eg⟩ := e
    simp only at hr1 hr2 hve
    subst hr1 hr2
    have : recoverD (c₀ :: cs) = some (ev, { c₀ with mode := .panicking [{ v := ev, recovered := true, goexit := false }] } :: cs) := by simp [recoverD, hc]
    simp only [this]
    exact (run ev _).2 (tailOk ev _ hve rfl)

end Go.Pv

/- Functions with deferred calls and marks: their contracts. -/
namespace Go.Pv
variable {P : Program}

def VLeaves (P : Program) (fn : Func) (Q : VOut → VHeap → Prop) : List VDef → Option VVal → VSt → Prop
  | [], none, st => ∃ v, vresults P fn st = some v ∧ Q (.ret v) st.h
  | [], some v, st => Q (.panic v) st.h
  | .mark o :: ds, m, st => st.h.ob o = some (.raw (.deferred (some []))) ∧ VLeaves P fn Q ds m (st.setOb o (.raw (.deferred none)))
  | .call k args :: ds, m, st => VRecover P k args m st.h (fun h' => VLeaves P fn Q ds none (st.setH h'))

theorem VLeaves.mono {fn : Func} {Q Q' : VOut → VHeap → Prop} (hq : ∀ o h, Q o h → Q' o h) : ∀ {ds : List VDef} {m : Option VVal} {st : VSt}, VLeaves P fn Q ds m st → VLeaves P fn Q' ds m st
  | [], none, _, ⟨v, h1, h2⟩ => ⟨v, h1, hq _ _ h2⟩
  | [], some _, _, h => hq _ _ h
  | .mark _ :: _, _, _, ⟨h1, h2⟩ => ⟨h1, h2.mono hq⟩
  | .call _ _ :: _, _, _, h => by
    obtain ⟨fn', id, o0, o1, c, tail, d0, d1, a1, a2, a3, a4, a5, a6, a7, a8, a9, a10, a11, a12, a13, a14, hx⟩ := h
    exact ⟨fn', id, o0, o1, c, tail, d0, d1, a1, a2, a3, a4, a5, a6, a7, a8, a9, a10, a11, a12, a13, a14, hx.mono fun e st' df' ⟨q1, q2, q3, q4⟩ => ⟨q1, q2, q3, q4.mono hq⟩⟩

theorem leaves_ne_run {G : Ghost} : ∀ {m : Option VVal} {u : FrameMode}, ModeRel G m u → u ≠ .run
  | none, _, h => by simp only [ModeRel] at h; subst h; simp
  | some _, _, ⟨_, h, _⟩ => by subst h; simp

theorem VLeaves.sound {fn : Func} {Q : VOut → VHeap → Prop} {h0 : VHeap} {G0 : Ghost} {w0 : World} {tmps : Array Value} (hm0 : MemOk h0.mem G0 w0) :
    ∀ (ds : List VDef) (m : Option VVal) (st : VSt) (G : Ghost) (w : World) (rs : List Deferred) (u : FrameMode), VLeaves P fn Q ds m st → MemOk st.mem G w → ActRel st G { tmps := tmps, defers := [] } → DefsRel G ds rs → ModeRel G m u →
      Trans h0.mem G0 w0 st.mem G w → LeavesInM (W none) 0 P fn tmps (CallPost h0 G0 w0 Q) rs u w
  | [], none, st, G, w, rs, u, hv, hm, ha, hd, hu, ht => by
    simp only [DefsRel] at hd; subst hd
    simp only [ModeRel] at hu; subst hu
    obtain ⟨v, hrv, hq⟩ := hv
    obtain ⟨v', h1, h2⟩ := vresults_sound (P := P) hm ha hrv
    exact ⟨v', h1, G, st.h, .ret v, hq, h2, hm.sub (heap_sub st), ht.trans hm0 (Trans.sub _ _ (heap_sub st))⟩
  | [], some v, st, G, w, rs, u, hv, hm, ha, hd, hu, ht => by
    simp only [DefsRel] at hd; subst hd
    obtain ⟨e, rfl, h1, h2, h3⟩ := hu
    exact ⟨G, st.h, .panic v, hv, ⟨h1, h2, h3⟩, hm.sub (heap_sub st), ht.trans hm0 (Trans.sub _ _ (heap_sub st))⟩
  | .mark o :: ds, m, st, G, w, rs, u, hv, hm, ha, hd, hu, ht => by
    obtain ⟨d, rs', rfl, ⟨b, hk, htar, hargs⟩, hd'⟩ := hd
    obtain ⟨hob, hv'⟩ := hv
    refine ⟨leaves_ne_run hu, .inl ?_⟩
    have hat := hm.ob o _ hob
    obtain ⟨b', hk', hw⟩ := hat
    have := hm.obI b b' o hk hk'; subst this
    have hlt : b < w.heap.size := hm.lt b (by rw [hk]; simp)
    obtain ⟨m1, t1⟩ := hm.putObj (o := o) hob hk (.raw (.deferred none)) (.deferred none) (fun c E fr q => by rw [hw] at q; cases q) ⟨b, hk, by simp [hlt]⟩
    refine ⟨b, _, htar, ?_, VLeaves.sound hm0 ds m (st.setOb o (.raw (.deferred none))) G _ rs' u hv' m1 (ha.same rfl rfl) (hd'.mono t1.ext) (hu.mono t1.ext) (ht.trans hm0 t1)⟩
    simp [Instr.takeDeferred, getObj, setObj, Sem.run_bind, hw, Sem.run]
  | .call k args :: ds, m, st, G, w, rs, u, hv, hm, ha, hd, hu, ht => by
    obtain ⟨d, rs', rfl, ⟨cap, htar, hargs⟩, hd'⟩ := hd
    obtain ⟨h1, h2⟩ := VRecover.sound hv (hm.sub (heap_sub st)) hargs hu
    refine ⟨leaves_ne_run hu, .inr ⟨fun q => by simp [W, Fence.wide] at q, .func k, cap, k, d.args ++ cap, htar, ?_, fun _ _ => trivial, ?_⟩⟩
    · rw [htar]; exact h1
    · refine CallsDIn.mono h2 fun e u' w' he => ?_
      cases e with
      | returned v =>
        obtain ⟨hs, G', h', hn, m', t'⟩ := he
        obtain ⟨m2, a2, t2⟩ := CallPost.back hm ha m' t'
        exact VLeaves.sound hm0 ds none (st.setH h') G' w' rs' (settle u') hn m2 a2 (hd'.mono t'.ext) hs (ht.trans hm0 t2)
      | panicked c => exact he.elim
      | outgrown => exact he.elim

/-- What is owed where a body is left, deferred calls and all. -/
def VEndX (P : Program) (fn : Func) (Q : VOut → VHeap → Prop) : XQ
  | .normal, st, df | .ret, st, df => VLeaves P fn Q df none st
  | .panic v, st, df => VLeaves P fn Q df (some v) st
  | _, _, _ => False

theorem vcallsx_of {f : FuncId} {fn : Func} {c : Code} {args : List VVal} {h : VHeap} {Q : VOut → VHeap → Prop} (hf : P.funcs[f]? = some fn) (hb : fn.body = some c) (hn : (fn.name == "runtime.NumGoroutine") = false) (hl : args.length ≤ fn.ntmps)
    (hw : VX P false c (VEndX P fn Q) (VSt.start fn args h) []) : VCalls P f args h Q := by
  intro G w rargs hm hr
  refine .inl ⟨callFunc_enter hf hb hn rargs w, (calls_W (r := none) (n := 0)).1 (callsIn_of_wp_marks hf hb trivial ?_)⟩
  have hact := start_act (h := h) hl hr []
  have hm0 : MemOk (VSt.start fn args h).mem G w := hm
  refine wpIn_mono (hw none G w _ (fun _ => rfl) hm0 hact (by simp [DefsRel])) ?_
  rintro e a' w' ⟨G', st', df', e', q, he, m, r, d, t⟩
  have ha : ActRel st' G' { tmps := a'.tmps, defers := [] } := ⟨r.size, r.tm⟩
  cases e <;> cases e' <;> simp only [ExitRel] at he <;> simp only [VEndX] at q <;> simp only [bodyPostM]
  · exact VLeaves.sound hm df' none st' G' w' _ _ q m ha d rfl t
  · exact VLeaves.sound hm df' none st' G' w' _ _ q m ha d rfl t
  · next chain v =>
    cases chain with
    | nil => exact he.elim
    | cons x l =>
      cases l with
      | nil => exact VLeaves.sound hm df' (some v) st' G' w' _ _ q m ha d ⟨x, rfl, he.1, he.2.1, he.2.2⟩ t
      | cons _ _ => exact he.elim

end Go.Pv

/- Rounds of a range over a function: yield; deferring. -/
namespace Go.Pv
variable {P : Program}

def endJump : VExit → Option (Option Code)
  | .normal => some none
  | .ret => some (some .ret)
  | .exit id => some (some (.exit id))
  | .goto l => some (some (.goto l))
  | .panic _ => none

/-- A call of a round's yield. -/
def VYield (P : Program) (st : VSt) (dst : Option Nat) (y : Nat) (args : List VVal) (next : VSt → Prop) : Prop :=
  ∃ L p v, st.h.ob y = some (.loop L) ∧ L.params = #[p] ∧ args = [v] ∧ p < L.n ∧
    VX P true L.assign (fun e st2 df2 => e = .normal ∧ df2 = [] ∧ ∃ L2, st2.h.ob y = some (.loop L2) ∧ L2.state = .ready ∧
      VX P true L.body (fun e3 st3 _ => ∃ L3 j, st3.h.ob y = some (.loop L3) ∧ endJump e3 = some j ∧
        VPut (st.setH (st3.setOb y (.loop { L3 with state := if j.isNone then .ready else .done, pending := j })).h) dst (.bool j.isNone) next)
        (st2.setOb y (.loop { L2 with state := .busy })) [])
      { n := L.n, tm := upd L.tm p v, bx := fun _ => none, h := st.h } []

def VStepX (P : Program) (rd : Bool) (esc : Nat → Bool) (st : VSt) (df : List VDef) (o : Oper) (next : VSt → List VDef → Prop) (Qp : VVal → VSt → List VDef → Prop) : Prop :=
  match o.op with
  | .defer { callee := .value f, args, .. } => match st.ev f with
    | .func (.func k) first captured => rd = false ∧ VPut st o.dst (.tuple []) (fun st' => next st' (.call k (first ++ st.evs args.toList ++ captured) :: df))
    | _ => False
  | .defer _ => False
  | .call { callee := .value f, args, .. } => match st.ev f with
    | .yieldv y => VYield P st o.dst y (st.evs args.toList) (fun st' => next st' df)
    | _ => VStep P esc st o (fun st' => next st' df) (fun v st' => Qp v st' df)
  | _ => VStep P esc st o (fun st' => next st' df) (fun v st' => Qp v st' df)

def NPostX (st : VSt) (G : Ghost) (w : World) (next : VSt → List VDef → Prop) (a' : Act) (w' : World) : Prop :=
  ∃ G' st' df', next st' df' ∧ MemOk st'.mem G' w' ∧ ActRel st' G' a' ∧ DefsRel G' df' a'.defers ∧ Trans st.mem G w st'.mem G' w'

def PPostX (st : VSt) (G : Ghost) (w : World) (Qp : VVal → VSt → List VDef → Prop) (e : Exit) (a' : Act) (w' : World) : Prop :=
  ∃ G' st' df' v, Qp v st' df' ∧ ExitRel G' (.panic v) e ∧ MemOk st'.mem G' w' ∧ ActRel st' G' a' ∧ DefsRel G' df' a'.defers ∧ Trans st.mem G w st'.mem G' w'

section
variable {st : VSt} {df : List VDef} {G : Ghost} {w : World} {a : Act} {r : Option Nat} {rd : Bool}

theorem loop_at (hm : MemOk st.mem G w) {y b : Nat} {L : VLoop} (ho : st.h.ob y = some (.loop L)) (hk : G.kind b = .obj y) : ∃ rr, w.heap[b]? = some (.loop rr) ∧ (Instr.getLoop b).run P w = .ok rr w ∧ rr.state = L.state ∧ rr.pending = L.pending ∧ rr.params = L.params ∧ rr.assign = L.assign ∧ rr.body = L.body ∧
    rr.tmps.size = L.n ∧ ∀ k, VRel G (L.tm k) (rr.tmps.getD k undef) := by
  obtain ⟨b', rr, hk', hw, h⟩ := hm.ob y _ ho
  have := hm.obI b b' y hk hk'; subst this
  refine ⟨rr, hw, ?_, h⟩
  simp [Instr.getLoop, getObj, Sem.run_bind, Sem.run, hw]

theorem loop_set (hm : MemOk st.mem G w) {y b : Nat} {L : VLoop} (ho : st.h.ob y = some (.loop L)) (hk : G.kind b = .obj y) {rr : Loop} (hw : w.heap[b]? = some (.loop rr)) (s : LoopState) (j : Option Code) (L' : VLoop) (rr' : Loop)
    (hL' : L' = { L with state := s, pending := j }) (hr' : rr' = { rr with state := s, pending := j }) :
    (setObj b (.loop rr')).run P w = .ok () { w with heap := w.heap.setIfInBounds b (.loop rr') } ∧
    MemOk (st.setOb y (.loop L')).mem G { w with heap := w.heap.setIfInBounds b (.loop rr') } ∧ Trans st.mem G w (st.setOb y (.loop L')).mem G { w with heap := w.heap.setIfInBounds b (.loop rr') } := by
  subst hL' hr'
  obtain ⟨rr2, hw2, _, h1, h2, h3, h4, h5, h6, h7⟩ := loop_at (P := P) hm ho hk
  rw [hw] at hw2; cases hw2
  have hlt : b < w.heap.size := hm.lt b (by rw [hk]; simp)
  obtain ⟨m1, t1⟩ := hm.putObj (o := y) ho hk (.loop { L with state := s, pending := j }) (.loop { rr with state := s, pending := j }) (fun c E fr q => by rw [hw] at q; cases q) ⟨b, { rr with state := s, pending := j }, hk, by simp [hlt], rfl, rfl, h3, h4, h5, h6, h7⟩
  exact ⟨by simp [setObj, Sem.run, hw], m1, t1⟩

theorem yield_sound {dst : Option Nat} {f : Operand} {args : Array Operand} {argTypes : Array TypeId} {type : TypeId} {pos : _} {after : Array Edge} {guard : Option (Nat × Bool)} {y : Nat} {next : VSt → List VDef → Prop} {Qp : VVal → VSt → List VDef → Prop}
    (hf : st.ev f = .yieldv y) (h : VYield P st dst y (st.evs args.toList) (fun st' => next st' df)) (hm : MemOk st.mem G w) (ha : ActRel st G a) (hd : DefsRel G df a.defers) :
    Oper.wpIn (W r) 0 P { dst, op := .call { callee := .value f, args, argTypes }, type, pos, after, guard } a w (NPostX st G w next) (PPostX st G w Qp) := by
  obtain ⟨L, p, v, hob, hp, hargs, hpn, hx⟩ := h
  have hfr := ha.ev f
  rw [hf] at hfr
  simp only [VRel] at hfr
  obtain ⟨b, hk, hfe⟩ := hfr
  obtain ⟨rr, hw, hget, h1, h2, h3, h4, h5, h6, h7⟩ := loop_at (P := P) hm hob hk
  have hav := ha.evs args.toList
  rw [hargs] at hav
  simp only [VRels] at hav
  obtain ⟨x, _, hxe, hxv, rfl⟩ := hav
  have hax : args.map a.eval = #[x] := by
    apply Array.toList_inj.1
    simpa using hxe
  refine ⟨fun _ _ => trivial, ?_⟩
  rw [Oper.semAt_eq _ _ _ (fun c => by simp)]
  have e : (execOp a.eval { dst, op := .call { callee := .value f, args, argTypes }, type, pos, after, guard }).run P w = .ok (.round b rr.fn (rr.tmps.setIfInBounds p x) L.assign L.body) w := by
    simp [execOp, resolve, invoke, hfe, Deferred.ofValue, hax, Instr.yield, Sem.run_bind, hget, h3, hp, h4, h5]
  rw [e, Oper.uponIn_round]
  refine ⟨fun q => by simp [W, Fence.wide] at q, roundIn_of_wpIn (F := W r) trivial ?_⟩
  have hm1 : MemOk ({ n := L.n, tm := upd L.tm p v, bx := fun _ => none, h := st.h } : VSt).mem G w := hm.sub (heap_sub st)
  have ha1 : ActRel { n := L.n, tm := upd L.tm p v, bx := fun _ => none, h := st.h } G { tmps := rr.tmps.setIfInBounds p x, defers := [] } := by
    refine ⟨by simp [h6], fun k => ?_⟩
    by_cases hkp : k = p
    · subst hkp
      simp only [upd_same]
      rw [show (rr.tmps.setIfInBounds k x).getD k undef = x from by simp [Array.getD_eq_getD_getElem?, h6, hpn]]
      exact hxv
    · simp only [upd_ne _ _ hkp]
      rw [show (rr.tmps.setIfInBounds p x).getD k undef = rr.tmps.getD k undef from by
        simp only [Array.getD_eq_getD_getElem?, Array.getElem?_setIfInBounds]
        rw [if_neg (by omega)]]
      exact h7 k
  refine wpIn_mono (hx (some b) G w _ (fun q => by cases q) hm1 ha1 (by simp [DefsRel])) ?_
  rintro e2 a2 w2 ⟨G2, st2, df2, e2', ⟨he2, hdf2, L2, hob2, hs2, hbody⟩, hex, m2, r2, d2, t2⟩
  subst he2 hdf2
  cases e2 <;> simp only [ExitRel] at hex
  simp only [Exit.then]
  have hk2 : G2.kind b = .obj y := t2.ext.obj b y hk
  obtain ⟨rr2, hw2, hget2, g1, g2, g3, g4, g5, g6, g7⟩ := loop_at (P := P) m2 hob2 hk2
  obtain ⟨hset, m3, t3⟩ := loop_set (P := P) m2 hob2 hk2 hw2 .busy L2.pending { L2 with state := .busy } { rr2 with state := .busy } rfl (by rw [← g2])
  refine ⟨_, ?_, wpIn_mono (hbody (some b) G2 _ a2 (fun q => by cases q) m3 (r2.same rfl rfl) d2) ?_⟩
  · simp only [Instr.beginRound, Sem.run_bind, hget2, Result.andThen_ok, hset, g1, hs2]
    rfl
  · rintro e4 a4 w4 ⟨G4, st4, df4, e4', ⟨L3, j, hob3, hj, hput⟩, hex4, m4, r4, d4, t4⟩
    have hk4 : G4.kind b = .obj y := t4.ext.obj b y hk2
    obtain ⟨rr4, hw4, hget4, _⟩ := loop_at (P := P) m4 hob3 hk4
    obtain ⟨hset4, m5, t5⟩ := loop_set (P := P) m4 hob3 hk4 hw4 (if j.isNone then .ready else .done) j { L3 with state := if j.isNone then .ready else .done, pending := j } { rr4 with state := if j.isNone then .ready else .done, pending := j } rfl rfl
    have fin : ∃ v' w', (Instr.endRound b j).run P w4 = .ok v' w' ∧ NPostX st G w next (a.put dst v') w' := by
      refine ⟨.bool j.isNone, { w4 with heap := w4.heap.setIfInBounds b (.loop { rr4 with state := if j.isNone then .ready else .done, pending := j }) }, ?_, ?_⟩
      · simp only [Instr.endRound, Sem.run_bind, hget4, Result.andThen_ok, hset4]
        rfl
      · have tall : Trans st.h.mem G w (st4.setOb y (.loop { L3 with state := if j.isNone then .ready else .done, pending := j })).mem G4 { w4 with heap := w4.heap.setIfInBounds b (.loop { rr4 with state := if j.isNone then .ready else .done, pending := j }) } :=
          Trans.trans (M1 := st2.mem) (hm.sub (heap_sub st)) t2 ((t3.trans m2 t4).trans m2 t5)
        obtain ⟨m6, a6, t6⟩ := CallPost.back (h' := (st4.setOb y (.loop { L3 with state := if j.isNone then .ready else .done, pending := j })).h) hm ha (m5.sub (heap_sub _)) (tall.trans (hm.sub (heap_sub st)) (Trans.sub _ _ (heap_sub _)))
        obtain ⟨G', st', q, m', a', dd, t'⟩ := VPut.sound (D := a.defers) (st0 := st) (v' := .bool j.isNone) hput m6 a6 rfl t6 (by simp [VRel])
        exact ⟨G', st', df, q, m', a', by rw [dd]; exact hd.mono t'.ext, t'⟩
    cases e4 <;> cases e4' <;> simp only [ExitRel] at hex4 <;> simp only [endJump] at hj <;> cases hj <;> simp only [roundPost]
    · exact fin
    · subst hex4; exact fin
    · subst hex4; exact fin
    · exact fin

end
end Go.Pv

/- Scopes and jumps; regions that defer or yield; ranges over a function. -/
namespace Go.Pv
variable {P : Program}

theorem stepR_scope {b : Frame} {a : Act} {k : List Item} {cs : List Frame} {w : World} {c : Code} : step P (lone (b.atR a (.code (.scope c) :: k)) cs w) = .next (lone (b.atR a (.code c :: .inScope c :: k)) cs w) :=
  step_lone_go (by simp [stepG, stepG.exec, Frame.atR])
theorem stepR_inScope {b : Frame} {a : Act} {k : List Item} {cs : List Frame} {w : World} {c : Code} : step P (lone (b.atR a (.inScope c :: k)) cs w) = .next (lone (b.atR a k) cs w) :=
  step_lone_go (by simp [stepG, stepG.exec, Frame.atR])

def Exit.jumps (c : Code) (J : Code → Act → World → Prop) (Q : Exit → Act → World → Prop) : Exit → Act → World → Prop
  | .goto l, a, w => ∃ rest, findLabel c l = some rest ∧ J rest a w
  | e, a, w => Q e a w

theorem wpIn_scope_idx {F : Fence} {nn : Nat} {Q : Exit → Act → World → Prop} {c : Code} {a : Act} {w : World} (I : Nat → Code → Act → World → Prop) {n : Nat} (h0 : I n c a w)
    (pass : ∀ n cur a w, I n cur a w → cur.wpIn F nn P (Exit.jumps c (fun rest a' w' => ∃ m, m < n ∧ I m rest a' w') Q) a w) : (Code.scope c).wpIn F nn P Q a w := by
  intro b k cs hro hb hr
  have key : ∀ n cur a w, I n cur a w → ∃ e a' w', Q e a' w' ∧ ArrivesIn (Machine.fenced P F) P (lone (b.atR a (.code cur :: .inScope c :: k)) cs w) b k cs e a' w' := by
    intro n
    induction n using Nat.strongRecOn with
    | _ n ih =>
      intro cur a w hI
      obtain ⟨e, a1, w1, hq, harr⟩ := pass n cur a w hI b (.inScope c :: k) cs hro hb hr
      cases e with
      | normal => exact ⟨.normal, a1, w1, hq, StepsIn.trans harr (.one (fenced_calm hb hr rfl) stepR_inScope)⟩
      | exit id => exact ⟨_, a1, w1, hq, fun k' hk => harr.1 k' (by simp [exitTo, hk]), fun h1 h2 => harr.2 h1 (by simpa [exitTo] using h2)⟩
      | goto l =>
        obtain ⟨rest, hf, m, hlt, hI1⟩ := hq
        obtain ⟨e2, a2, w2, hq2, harr2⟩ := ih m hlt rest a1 w1 hI1
        have hg : gotoIn l (.inScope c :: k) = some (.code rest :: .inScope c :: k) := by simp [gotoIn, hf]
        exact ⟨e2, a2, w2, hq2, .of_steps (harr.1 _ hg) harr2⟩
      | ret => exact ⟨_, a1, w1, hq, harr⟩
      | panic ch => exact ⟨_, a1, w1, hq, harr⟩
      | outgrown => exact ⟨_, a1, w1, hq, harr⟩
  obtain ⟨e, a', w', hq, harr⟩ := key n c a w h0
  exact ⟨e, a', w', hq, .of_steps (.one (fenced_calm hb hr rfl) stepR_scope) harr⟩

section
variable {Q : XQ} {st : VSt} {df : List VDef} {rd : Bool}

def xjumps (c : Code) (J : Code → VSt → List VDef → Prop) (Q : XQ) : XQ
  | .goto l, st, df => ∃ rest, findLabel c l = some rest ∧ J rest st df
  | e, st, df => Q e st df

theorem vx_scope {c : Code} (I : Nat → Code → VSt → List VDef → Prop) {n : Nat} (h0 : I n c st df) (pass : ∀ n cur st df, I n cur st df → VX P rd cur (xjumps c (fun rest st' df' => ∃ m, m < n ∧ I m rest st' df') Q) st df) :
    VX P rd (.scope c) Q st df := by
  intro r G w a hr hm ha hd
  refine wpIn_scope_idx (I := fun m cur a' w' => ∃ G' st' df', I m cur st' df' ∧ MemOk st'.mem G' w' ∧ ActRel st' G' a' ∧ DefsRel G' df' a'.defers ∧ Trans st.mem G w st'.mem G' w')
    (n := n) ⟨G, st, df, h0, hm, ha, hd, Trans.refl _ G w⟩ ?_
  rintro m cur a1 w1 ⟨G1, st1, df1, hI, m1, r1, d1, t1⟩
  refine wpIn_mono (pass m cur st1 df1 hI r G1 w1 a1 hr m1 r1 d1) ?_
  rintro e a2 w2 ⟨G2, st2, df2, e2, q, he, m2, r2, d2, t2⟩
  cases e <;> cases e2 <;> simp only [ExitRel] at he <;> simp only [Exit.jumps]
  case goto.goto l l2 =>
    subst he
    obtain ⟨rest, hf, m', hlt, hI'⟩ := q
    exact ⟨rest, hf, m', hlt, G2, st2, df2, hI', m2, r2, d2, t1.trans hm t2⟩
  all_goals exact ⟨G2, st2, df2, _, q, he, m2, r2, d2, t1.trans hm t2⟩

theorem stepx_sound {esc : Nat → Bool} {o : Oper} {next : VSt → List VDef → Prop} {Qp : VVal → VSt → List VDef → Prop} {G : Ghost} {w : World} {a : Act} {r : Option Nat} (h : VStepX P rd esc st df o next Qp) (hr : rd = false → r = none)
    (hm : MemOk st.mem G w) (ha : ActRel st G a) (hd : DefsRel G df a.defers) : o.wpIn (W r) 0 P a w (NPostX st G w next) (PPostX st G w Qp) := by
  have plain : (∀ c, o.op ≠ .defer c) → VStep P esc st o (fun st' => next st' df) (fun v st' => Qp v st' df) → o.wpIn (W r) 0 P a w (NPostX st G w next) (PPostX st G w Qp) := fun hnd hs =>
    wpIn_of_wp hnd (Oper.wp_mono (step_sound (P := P) hs hm ha) (fun a' w' ⟨G', st', q, m, ra, dd, t⟩ => ⟨G', st', df, q, m, ra, by rw [dd]; exact hd.mono t.ext, t⟩)
      (fun e a' w' ⟨G', st', v, q, he, m, ra, dd, t⟩ => ⟨G', st', df, v, q, he, m, ra, by rw [dd]; exact hd.mono t.ext, t⟩))
  unfold VStepX at h
  split at h
  · next f args argTypes hop =>
    split at h
    · next k first captured hf =>
      obtain ⟨hrd, hput⟩ := h
      have := hr hrd; subst this
      obtain ⟨dst, op, type, pos, after, guard⟩ := o
      simp only at hop; subst hop
      have hfr := ha.ev f
      rw [hf] at hfr
      simp only [VRel] at hfr
      obtain ⟨fa, ca, hfe, hfr, hcr⟩ := hfr
      refine ⟨fun _ _ => trivial, ?_⟩
      rw [show (W none).round = none from rfl, Oper.semAt_none]
      have e : (execOp a.eval { dst, op := .defer { callee := .value f, args, argTypes }, type, pos, after, guard }).run P w = .ok (.defer { target := .fn (.func k) ca, args := fa ++ args.map a.eval }) w := by
        simp [execOp, resolve, hfe, Deferred.ofValue]
      rw [e, Oper.uponIn_defer]
      obtain ⟨G', st', q, m, ra, dd, t⟩ := VPut.sound (D := a.defers) (st0 := st) hput hm ha rfl (Trans.refl _ G w) (rel_skip G)
      refine ⟨G', st', _, q, m, ⟨ra.size.symm ▸ ?_, fun k => ?_⟩, ?_, t⟩
      · cases dst <;> simp [Act.put]
      · have := ra.tm k
        cases dst <;> exact this
      · rw [put_defers]
        refine ⟨_, _, rfl, ⟨ca, rfl, ?_⟩, hd.mono t.ext⟩
        simp only [Array.toList_append, Array.toList_map]
        exact ((VRels.mono t.ext hfr).append ((ha.mono t.ext).evs _)).append (VRels.mono t.ext hcr)
    · exact h.elim
  · exact h.elim
  · next f args argTypes hop =>
    split at h
    · next y hf =>
      obtain ⟨dst, op, type, pos, after, guard⟩ := o
      simp only at hop; subst hop
      exact yield_sound hf h hm ha hd
    · exact plain (fun c => by rw [hop]; simp) h
  · next h1 h2 h3 => exact plain h2 h

/-- The operations of a region, in the text's order, none of them guarded. -/
def VOpsX (P : Program) (rd : Bool) (esc : Nat → Bool) (Q : XQ) : List Oper → VSt → List VDef → Prop
  | [], st, df => Q .normal st df
  | o :: rest, st, df => o.guard = none ∧ VStepX P rd esc st df o (fun st' df' => VOpsX P rd esc Q rest st' df') (fun v st' df' => Q (.panic v) st' df')

theorem Oper.wpIn_mono2 {F : Fence} {n : Nat} {o : Oper} {a : Act} {w : World} {K K' : Act → World → Prop} {Q Q' : Exit → Act → World → Prop} (h : o.wpIn F n P a w K Q) (hk : ∀ a w, K a w → K' a w) (hq : ∀ e a w, Q e a w → Q' e a w) : o.wpIn F n P a w K' Q' := by
  obtain ⟨h0, h⟩ := h
  refine ⟨h0, ?_⟩
  cases hr : (o.semAt F.round a.eval).run P w with
  | ok x w1 =>
    rw [hr] at h
    cases x <;> simp only [Oper.uponIn] at h ⊢
    case value v => exact hk _ _ h
    case skip => exact hk _ _ h
    case defer d => exact hk _ _ h
    case enter f args =>
      refine ⟨h.1, h.2.mono fun e w2 he => ?_⟩
      cases e with
      | returned v => exact hk _ _ he
      | panicked c => exact hq _ _ _ he
      | outgrown => obtain ⟨a0, w0, q⟩ := he; exact ⟨a0, w0, hq _ _ _ q⟩
    case row row args => exact ⟨h.1, h.2.mono fun v w2 q => hk _ _ q⟩
    case round l f tmps assign body =>
      refine ⟨h.1, h.2.mono fun e w2 he => ?_⟩
      cases e with
      | returned v => exact hk _ _ he
      | panicked c => exact hq _ _ _ he
      | outgrown => obtain ⟨a0, w0, q⟩ := he; exact ⟨a0, w0, hq _ _ _ q⟩
  | halt x w1 =>
    rw [hr] at h
    cases x <;> simp only [Oper.uponIn] at h ⊢
    exact hq _ _ _ h

theorem wpOpsIn_mono {F : Fence} {n : Nat} {ops : Array Oper} {Q Q' : Exit → Act → World → Prop} (hq : ∀ e a w, Q e a w → Q' e a w) : ∀ {l : List Nat} {a : Act} {w : World}, wpOpsIn F n P ops Q l a w → wpOpsIn F n P ops Q' l a w
  | [], _, _, h => hq _ _ _ h
  | i :: rest, a, w, h => by
    simp only [wpOpsIn] at h ⊢
    split
    · next ho => rw [ho] at h; exact wpOpsIn_mono hq h
    · next o ho =>
      rw [ho] at h
      simp only at h
      split
      · next hw => rw [if_pos hw] at h; exact Oper.wpIn_mono2 h (fun a w q => wpOpsIn_mono hq q) hq
      · next hw => rw [if_neg hw] at h; exact ⟨h.1, wpOpsIn_mono hq h.2⟩

theorem opsx_sound {esc : Nat → Bool} {ops : Array Oper} {r : Option Nat} (hr : rd = false → r = none) : ∀ (l : List Oper) (k : Nat), ops.toList.drop k = l → ∀ (st : VSt) (df : List VDef) (G : Ghost) (w : World) (a : Act), VOpsX P rd esc Q l st df →
    MemOk st.mem G w → ActRel st G a → DefsRel G df a.defers → wpOpsIn (W r) 0 P ops (XPost st G w Q) (List.range' k l.length) a w
  | [], k, _, st, df, G, w, a, h, hm, ha, hd => ⟨G, st, df, .normal, h, trivial, hm, ha, hd, Trans.refl _ G w⟩
  | o :: rest, k, hk, st, df, G, w, a, h, hm, ha, hd => by
    have ho : ops[k]? = some o := by
      have : ops.toList[k]? = some o := by
        have := congrArg List.head? hk
        simpa [List.head?_drop] using this
      simpa using this
    have hrest : ops.toList.drop (k + 1) = rest := by
      rw [← List.drop_drop, hk]; rfl
    obtain ⟨hg, hs⟩ := h
    simp only [List.length_cons, List.range'_succ, wpOpsIn, ho]
    have hw : Region.wanted o (yielded ops a.tmps) = true := by simp [Region.wanted, hg]
    rw [if_pos hw]
    refine Oper.wpIn_mono2 (stepx_sound hs hr hm ha hd) ?_ ?_
    · rintro a1 w1 ⟨G1, st1, df1, q, m1, r1, d1, t1⟩
      exact wpOpsIn_mono (fun e a' w' hq => hq.trans hm t1) (opsx_sound hr rest (k + 1) hrest st1 df1 G1 w1 a1 q m1 r1 d1)
    · rintro e a1 w1 ⟨G1, st1, df1, v, q, he, m1, r1, d1, t1⟩
      exact ⟨G1, st1, df1, .panic v, q, he, m1, r1, d1, t1⟩

theorem vx_regionx {esc : Nat → Bool} {id : Nat} {ops : Array Oper} (h : VOpsX P rd esc Q ops.toList st df) : VX P rd (.region id ops false) Q st df := by
  intro r G w a hr hm ha hd
  refine wpIn_region ?_
  have := opsx_sound (ops := ops) hr ops.toList 0 (by simp) st df G w a h hm ha hd
  rw [Array.length_toList, ← List.range_eq_range'] at this
  exact this

end
end Go.Pv

/- A range over a function. -/
namespace Go.Pv
variable {P : Program}

theorem run_resolve_yield {a : Act} {g : Operand} {l : Nat} {w : World} {k : FuncId} {fa ca : Array Value} (hg : a.eval g = .func (.func k) fa ca) :
    (resolve a.eval (rangeCall g l) 0).run P w = .ok { target := .fn (.func k) ca, args := fa ++ #[.func (.yield l) #[] #[]] } w := by
  have : a.eval (.const (.func (.yield l) #[] #[])) = .func (.yield l) #[] #[] := rfl
  simp only [resolve, List.map_toArray, List.map_cons, List.map_nil, hg, this, Deferred.ofValue]
  rfl

theorem vx_range {Q : XQ} {st : VSt} {df : List VDef} {g : Operand} {ps : Array Tmp} {assign body : Code} {k : FuncId} {first captured : List VVal} (hg : st.ev g = .func (.func k) first captured)
    {fn : Func} {c : Code} (hf : P.funcs[k]? = some fn) (hb : fn.body = some c) (hn : (fn.name == "runtime.NumGoroutine") = false)
    (h : ∀ od ol, st.h.ob od = none → st.Free od → (st.setOb od (.raw (.deferred (some [])))).bump.h.ob ol = none → (st.setOb od (.raw (.deferred (some [])))).bump.Free ol →
      VCalls P k (first ++ [.yieldv ol] ++ captured) ((st.setOb od (.raw (.deferred (some [])))).bump.setOb ol (.loop { n := st.n, tm := st.tm, params := ps, assign := assign, body := body, state := .ready, pending := none })).bump.h (fun out h' => match out with
        | .ret _ => ∃ L', h'.ob ol = some (.loop L') ∧ L'.state ≠ .busy ∧ (match L'.pending with
          | none => Q .normal ((st.setH h').setOb ol (.loop { L' with state := .exhausted })) (.mark od :: df)
          | some c => VX P false c Q ((st.setH h').setOb ol (.loop { L' with state := .exhausted })) (.mark od :: df))
        | .panic v => Q (.panic v) (st.setH h') (.mark od :: df))) :
    VX P false (.rangeFunc g ps assign body) Q st df := by
  intro r G w a hr hm ha hd
  have := hr rfl; subst this
  refine wpIn_rangeFunc fun fid _ => ?_
  -- the block for deferred calls
  obtain ⟨m1, t1⟩ := hm.pushObj (.raw (.deferred (some []))) (.deferred (some [])) (fun G' _ hk => ⟨w.heap.size, hk, heap_push_new w _⟩)
  have e1 : ((st.setOb G.bound (.raw (.deferred (some [])))).bump).mem = { st.mem with ob := upd st.mem.ob G.bound (some (.raw (.deferred (some [])))), bd := st.mem.bd.map (· + 1) } := rfl
  rw [← e1] at m1 t1
  -- the loop's record
  let L : VLoop := { n := st.n, tm := st.tm, params := ps, assign := assign, body := body, state := .ready, pending := none }
  let rr : Loop := { state := .ready, pending := none, fn := fid, tmps := a.tmps, params := ps, assign := assign, body := body, defers := w.heap.size }
  let w1 := w.alloc (.deferred (some []))
  have hext1 : ActRel (st.setOb G.bound (.raw (.deferred (some [])))).bump _ a := (ha.mono t1.ext).same rfl rfl
  obtain ⟨m2, t2⟩ := m1.pushObj (.loop L) (.loop rr) (fun G' he hk => ⟨w1.heap.size, rr, hk, heap_push_new w1 _, rfl, rfl, rfl, rfl, rfl, ha.size, fun k => VRel.mono he (VRel.mono t1.ext (ha.tm k))⟩)
  generalize hG1 : G.put w.heap.size (.obj G.bound) (G.bound + 1) = G1 at m1 t1 m2 t2 hext1
  have hb1 : G1.bound = G.bound + 1 := by rw [← hG1]; rfl
  let st2 : VSt := ((st.setOb G.bound (.raw (.deferred (some [])))).bump.setOb G1.bound (.loop L)).bump
  have m2' : MemOk st2.mem (G1.put w1.heap.size (.obj G1.bound) (G1.bound + 1)) (w1.alloc (.loop rr)) := m2
  have t2' : Trans (st.setOb G.bound (.raw (.deferred (some [])))).bump.mem G1 w1 st2.mem (G1.put w1.heap.size (.obj G1.bound) (G1.bound + 1)) (w1.alloc (.loop rr)) := t2
  have hk1 : G1.kind w.heap.size = .obj G.bound := by rw [← hG1]; exact put_kind_same
  generalize hG2 : G1.put w1.heap.size (.obj G1.bound) (G1.bound + 1) = G2 at m2' t2'
  have hk2 : G2.kind w1.heap.size = .obj G1.bound := by rw [← hG2]; exact put_kind_same
  have ha2 : ActRel st2 G2 a := (hext1.mono t2'.ext).same rfl rfl
  have t12 := t1.trans hm t2'
  have hgr := ha.ev g
  rw [hg] at hgr
  simp only [VRel] at hgr
  obtain ⟨fa, ca, hge, hfr, hcr⟩ := hgr
  have hargs : VRels G2 (first ++ [.yieldv G1.bound] ++ captured) (fa ++ #[Value.func (Fn.yield w1.heap.size) #[] #[]] ++ ca).toList := by
    simp only [Array.toList_append]
    refine ((VRels.mono t12.ext hfr).append ?_).append (VRels.mono t12.ext hcr)
    simp only [VRels]
    exact ⟨_, [], rfl, by simp only [VRel]; exact ⟨_, hk2, rfl⟩, rfl⟩
  have hcall := h G.bound G1.bound (fresh_ob hm) hm.free (fresh_ob m1) m1.free G2 _ _ (m2'.sub (heap_sub st2)) hargs
  have hent := callFunc_enter hf hb hn (fa ++ #[Value.func (Fn.yield w1.heap.size) #[] #[]] ++ ca) (w1.alloc (.loop rr))
  rcases hcall with ⟨_, hcall⟩ | ⟨v', w', q, _⟩
  case inr => rw [hent] at q; cases q
  refine ⟨w1.heap.size, [{ target := .collected w.heap.size, args := #[] }], w1.alloc (.loop rr), { target := .fn (.func k) ca, args := fa ++ #[Value.func (Fn.yield w1.heap.size) #[] #[]] }, w1.alloc (.loop rr), k, _, w1.alloc (.loop rr), ?_, run_resolve_yield hge, fun _ _ => trivial, hent, fun q => by simp [W, Fence.wide] at q, ?_⟩
  · rfl
  · refine (calls_W (r := none) (n := 0)).2 (hcall.mono ?_)
    rintro e w3 ⟨G3, h3, out, hq, he, m3, t3⟩
    obtain ⟨m4, a4, t4⟩ := CallPost.back (st := st2) m2' ha2 m3 t3
    have m4' : MemOk (st.setH h3).mem G3 w3 := m4
    have ha5 : ActRel (st.setH h3) G3 { a with defers := [{ target := .collected w.heap.size, args := #[] }] ++ a.defers } := ⟨a4.size, a4.tm⟩
    have t14 : Trans st.mem G w (st.setH h3).mem G3 w3 := t12.trans hm t4
    have hk13 : G3.kind w.heap.size = .obj G.bound := (t2'.ext.trans t4.ext).obj _ _ hk1
    have hk23 : G3.kind w1.heap.size = .obj G1.bound := t4.ext.obj _ _ hk2
    have hd5 : DefsRel G3 (.mark G.bound :: df) ([{ target := .collected w.heap.size, args := #[] }] ++ a.defers) := ⟨_, _, rfl, ⟨_, hk13, rfl, rfl⟩, hd.mono t14.ext⟩
    cases out with
    | ret v =>
      cases e with
      | returned v' =>
        obtain ⟨L', hob, hst, hq⟩ := hq
        obtain ⟨rr3, hw3, hget3, g1, g2, g3, g4, g5, g6, g7⟩ := loop_at (P := P) (st := st.setH h3) m4' hob hk23
        obtain ⟨hset, m5, t5⟩ := loop_set (P := P) (st := st.setH h3) m4' hob hk23 hw3 .exhausted L'.pending { L' with state := .exhausted } { rr3 with state := .exhausted } rfl (by rw [← g2])
        refine ⟨L'.pending, { w3 with heap := w3.heap.setIfInBounds w1.heap.size (.loop { rr3 with state := .exhausted }) }, ?_, ?_⟩
        · have hnb : (rr3.state == .busy) = false := by
            rw [g1]
            cases hs : L'.state <;> first | rfl | exact absurd hs hst
          simp only [Instr.endLoop, Sem.run_bind, hget3, Result.andThen_ok, hnb, Bool.false_eq_true, if_false, hset, Sem.run_pure]
          rw [g2]
        · split at hq
          · next hp =>
            rw [hp]
            exact ⟨G3, _, _, .normal, hq, trivial, m5, ha5.same rfl rfl, hd5, t14.trans hm t5⟩
          · next cc hp =>
            rw [hp]
            exact wpIn_mono (hq none G3 _ _ (fun _ => rfl) m5 (ha5.same rfl rfl) hd5) fun e a' w' q => q.trans hm (t14.trans hm t5)
      | panicked c => exact he.elim
      | outgrown => exact he.elim
    | panic v =>
      cases e with
      | returned v' => exact he.elim
      | panicked c =>
        cases c with
        | nil => exact he.elim
        | cons x l =>
          cases l with
          | nil => exact ⟨G3, _, _, .panic v, hq, he, m4', ha5, hd5, t14⟩
          | cons _ _ => exact he.elim
      | outgrown => exact he.elim

end Go.Pv
