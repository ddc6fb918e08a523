/-
  Virtual values and memory, and what the plain operations give: sound for every program of the model. No condition.
-/
import Derived.Calls
import Derived.Defers
import Derived.Recover
import Derived.KernelRfl
import Derived.Laws.World
import Derived.Laws.Sem
import Derived.Laws.Entries
import Derived.Laws.Strings
import Derived.Laws.Strings2
import Derived.Laws.Concat
import Derived.Laws.Cells
import Derived.Laws.Bits
import Derived.Laws.BytesString

/- Virtual values, and how they stand for the model's: slices by value. -/
namespace Go.Pv

/-- What is known of a slice's capacity. -/
inductive Cap where
  | any
  | nil
  | exact (c : Nat)
  | tok (t : Nat) (sz : Nat)
  deriving DecidableEq

inductive VVal where
  | undef
  | bool (b : Bool)
  | int (k : IntKind) (n : Int)
  | str (s : List UInt8)
  | nilp
  | ptr (o off : Nat)
  | lptr (s ver off : Nat)
  | iptr (cells : List VVal)
  | slice (cells : List VVal) (len : Nat) (cap : Cap)
  | mslice (o off len cap : Nat)
  | map (o : Option Nat)
  | func (fn : Fn) (first captured : List VVal)
  | nilFunc
  | iface (t : TypeId) (v : VVal)
  | nilIface
  | agg (cells : List VVal)
  | tuple (vs : List VVal)
  | yieldv (o : Nat)
  | rslice (t sz len : Nat)
  | gptr (t sz len off : Nat)
  | fptr (cells : List VVal) (t : Nat)

instance : Inhabited VVal := ⟨.undef⟩

structure VEnt where
  key : VVal
  val : VVal

/-- A loop over a function, as its record has it. -/
structure VLoop where
  n : Nat
  tm : Nat → VVal
  params : Array Tmp
  assign : Code
  body : Code
  state : LoopState
  pending : Option Code

/-- Heap objects. -/
inductive VObj where
  | cells (vs : List VVal)
  | map (es : List VEnt) (clock : Nat)
  | raw (o : Obj)
  | loop (l : VLoop)
  | iter (m : Option Nat) (since : Nat)

/-- What the real blocks are. -/
inductive Kind where
  | free
  | obj (o : Nat)
  | loc (s ver : Nat)
  | row (cs : List Value) (total : Nat)
  | grow (t total : Nat)

structure Ghost where
  kind : Nat → Kind
  fam : Nat → Option (Nat × Nat)
  bound : Nat

/-- The capacity's side of the relation. -/
def CapOk (G : Ghost) (cap : Cap) (a : Option Addr) (n rcap : Nat) : Prop :=
  match cap with
  | .any => True
  | .nil => a = none ∧ rcap = 0
  | .exact c => rcap = c
  | .tok t sz => t < G.bound ∧ ∀ b m, G.fam t = some (b, m) → n ≤ m ∧ (n = m → a = some ⟨b, 0, none⟩ ∧ ∃ rc total, G.kind b = .row rc total ∧ rcap * sz ≤ total)

/-- A value that speaks of a growing row as it was at n cells. -/
def GrowOk (G : Ghost) (t n : Nat) (p : Nat → Nat → Prop) : Prop :=
  t < G.bound ∧ ∀ b m, G.fam t = some (b, m) → n ≤ m ∧ (n = m → ∃ total, G.kind b = .grow t total ∧ p b total)

/-- A pointer to the first of n cells of a family's row, if it has no more. -/
def FirstOk (G : Ghost) (t n : Nat) (b off : Nat) : Prop :=
  t < G.bound ∧ ∀ b' m, G.fam t = some (b', m) → n ≤ m ∧ (n = m → b' = b ∧ off = 0)

/-- Each of them fits into one cell. -/
def Ones (l : List Value) : Prop := ∀ x ∈ l, x.oneCell' = true

theorem Ones.append {l k : List Value} (h : Ones l) (h' : Ones k) : Ones (l ++ k) := fun x hx => (List.mem_append.1 hx).elim (h x) (h' x)
theorem Ones.drop {l : List Value} (n : Nat) (h : Ones l) : Ones (l.drop n) := fun x hx => h x (List.mem_of_mem_drop hx)
theorem Ones.take {l : List Value} (n : Nat) (h : Ones l) : Ones (l.take n) := fun x hx => h x (List.mem_of_mem_take hx)
theorem Ones.set {l : List Value} (n : Nat) {v : Value} (h : Ones l) (hv : v.oneCell' = true) : Ones (l.set n v) := fun x hx => by
  rcases List.mem_or_eq_of_mem_set hx with hx | rfl
  · exact h x hx
  · exact hv
theorem Ones.nil : Ones [] := fun _ h => by cases h
theorem Ones.cons {v : Value} {l : List Value} (hv : v.oneCell' = true) (h : Ones l) : Ones (v :: l) := fun x hx => by
  rcases List.mem_cons.1 hx with rfl | hx
  · exact hv
  · exact h x hx

mutual
def VRel (G : Ghost) : VVal → Value → Prop
  | .undef, _ => True
  | .bool b, v => v = .bool b
  | .int k n, v => v = .int k n
  | .str s, v => v = .string ⟨s.toArray⟩
  | .nilp, v => v = .pointer none
  | .ptr o off, v => ∃ b, G.kind b = .obj o ∧ v = .pointer (some ⟨b, off, none⟩)
  | .lptr s ver off, v => ∃ b, G.kind b = .loc s ver ∧ v = .pointer (some ⟨b, off, none⟩)
  | .iptr cells, v => ∃ b off rc total, G.kind b = .row rc total ∧ v = .pointer (some ⟨b, off, none⟩) ∧ off + cells.length ≤ rc.length ∧ VRels G cells ((rc.drop off).take cells.length)
  | .slice cells len cap, v => ∃ a rcap, v = .slice a len rcap ∧ len ≤ rcap ∧ CapOk G cap a cells.length rcap ∧
      (cells = [] ∨ ∃ b off rc total, a = some ⟨b, off, none⟩ ∧ G.kind b = .row rc total ∧ off + cells.length ≤ rc.length ∧ VRels G cells ((rc.drop off).take cells.length))
  | .mslice o off len cap, v => ∃ b, G.kind b = .obj o ∧ v = .slice (some ⟨b, off, none⟩) len cap
  | .map none, v => v = .map none
  | .map (some o), v => ∃ b, G.kind b = .obj o ∧ v = .map (some b)
  | .func fn first captured, v => ∃ f c : Array Value, v = .func fn f c ∧ VRels G first f.toList ∧ VRels G captured c.toList
  | .nilFunc, v => v = .nilFunc
  | .iface t x, v => ∃ y, v = .iface t y ∧ VRel G x y
  | .nilIface, v => v = .nilIface
  | .agg cells, v => ∃ c : Array Value, v = .agg c ∧ VRels G cells c.toList ∧ Ones c.toList
  | .tuple vs, v => ∃ c : Array Value, v = .tuple c ∧ VRels G vs c.toList
  | .yieldv o, v => ∃ b, G.kind b = .obj o ∧ v = .func (.yield b) #[] #[]
  | .rslice t sz len, v => ∃ b rcap, v = .slice (some ⟨b, 0, none⟩) len rcap ∧ len ≤ rcap ∧ GrowOk G t (len * sz) fun b' total => b' = b ∧ rcap * sz ≤ total
  | .gptr t sz len off, v => ∃ b, v = .pointer (some ⟨b, off, none⟩) ∧ GrowOk G t (len * sz) fun b' _ => b' = b
  | .fptr cells t, v => ∃ b off rc total, G.kind b = .row rc total ∧ v = .pointer (some ⟨b, off, none⟩) ∧ off + cells.length ≤ rc.length ∧ VRels G cells ((rc.drop off).take cells.length) ∧ FirstOk G t cells.length b off
def VRels (G : Ghost) : List VVal → List Value → Prop
  | [], l => l = []
  | x :: xs, l => ∃ y ys, l = y :: ys ∧ VRel G x y ∧ VRels G xs ys
end

theorem VRels.length {G : Ghost} : ∀ {xs : List VVal} {ys : List Value}, VRels G xs ys → xs.length = ys.length
  | [], _, h => by simp only [VRels] at h; simp [h]
  | x :: xs, _, h => by
    simp only [VRels] at h
    obtain ⟨y, ys, rfl, _, h⟩ := h
    simp [h.length]

/-- One ghost is later than another. -/
structure Ext (G G' : Ghost) : Prop where
  obj : ∀ b o, G.kind b = .obj o → G'.kind b = .obj o
  loc : ∀ b s v, G.kind b = .loc s v → G'.kind b = .loc s v
  row : ∀ b rc t, G.kind b = .row rc t → ∃ rc', G'.kind b = .row rc' t ∧ rc <+: rc'
  grow : ∀ b t n, G.kind b = .grow t n → G'.kind b = .grow t n
  bound : G.bound ≤ G'.bound
  fam : ∀ t b m, t < G.bound → G'.fam t = some (b, m) → ∃ b0 m0, G.fam t = some (b0, m0) ∧ ((b0 = b ∧ m0 = m) ∨ m0 < m)

theorem Ext.refl (G : Ghost) : Ext G G :=
  ⟨fun _ _ h => h, fun _ _ _ h => h, fun _ _ _ h => ⟨_, h, List.prefix_refl _⟩, fun _ _ _ h => h, Nat.le_refl _, fun _ b m _ h => ⟨b, m, h, .inl ⟨rfl, rfl⟩⟩⟩

theorem Ext.trans {A B C : Ghost} (h : Ext A B) (k : Ext B C) : Ext A C where
  obj b o e := k.obj b o (h.obj b o e)
  loc b s v e := k.loc b s v (h.loc b s v e)
  row b rc t e := by
    obtain ⟨r1, e1, p1⟩ := h.row b rc t e
    obtain ⟨r2, e2, p2⟩ := k.row b r1 t e1
    exact ⟨r2, e2, p1.trans p2⟩
  grow b t n e := k.grow b t n (h.grow b t n e)
  bound := Nat.le_trans h.bound k.bound
  fam t b m ht e := by
    obtain ⟨b1, m1, e1, c1⟩ := k.fam t b m (Nat.lt_of_lt_of_le ht h.bound) e
    obtain ⟨b0, m0, e0, c0⟩ := h.fam t b1 m1 ht e1
    refine ⟨b0, m0, e0, ?_⟩
    rcases c0 with ⟨rfl, rfl⟩ | c0 <;> rcases c1 with ⟨rfl, rfl⟩ | c1
    · exact .inl ⟨rfl, rfl⟩
    · exact .inr c1
    · exact .inr c0
    · exact .inr (by omega)

theorem CapOk.mono {G G' : Ghost} (h : Ext G G') {cap : Cap} {a : Option Addr} {n rcap : Nat} (k : CapOk G cap a n rcap) : CapOk G' cap a n rcap := by
  cases cap with
  | any => trivial
  | nil => exact k
  | exact c => exact k
  | tok t sz =>
    obtain ⟨hb, hf⟩ := k
    refine ⟨Nat.lt_of_lt_of_le hb h.bound, fun b m e => ?_⟩
    obtain ⟨b0, m0, e0, c⟩ := h.fam t b m hb e
    obtain ⟨h1, h2⟩ := hf b0 m0 e0
    rcases c with ⟨rfl, rfl⟩ | c
    · refine ⟨h1, fun e => ?_⟩
      obtain ⟨ha, rc, total, hk, hc⟩ := h2 e
      obtain ⟨rc', hk', _⟩ := h.row _ _ _ hk
      exact ⟨ha, rc', total, hk', hc⟩
    · exact ⟨by omega, fun e => by omega⟩

theorem GrowOk.mono {G G' : Ghost} (h : Ext G G') {t n : Nat} {p : Nat → Nat → Prop} (k : GrowOk G t n p) : GrowOk G' t n p := by
  obtain ⟨hb, hf⟩ := k
  refine ⟨Nat.lt_of_lt_of_le hb h.bound, fun b m e => ?_⟩
  obtain ⟨b0, m0, e0, c⟩ := h.fam t b m hb e
  obtain ⟨h1, h2⟩ := hf b0 m0 e0
  rcases c with ⟨rfl, rfl⟩ | c
  · refine ⟨h1, fun e => ?_⟩
    obtain ⟨total, hk, hp⟩ := h2 e
    exact ⟨total, h.grow _ _ _ hk, hp⟩
  · exact ⟨by omega, fun e => by omega⟩

theorem FirstOk.mono {G G' : Ghost} (h : Ext G G') {t n b off : Nat} (k : FirstOk G t n b off) : FirstOk G' t n b off := by
  obtain ⟨hb, hf⟩ := k
  refine ⟨Nat.lt_of_lt_of_le hb h.bound, fun b' m e => ?_⟩
  obtain ⟨b0, m0, e0, c⟩ := h.fam t b' m hb e
  obtain ⟨h1, h2⟩ := hf b0 m0 e0
  rcases c with ⟨rfl, rfl⟩ | c
  · exact ⟨h1, h2⟩
  · exact ⟨by omega, fun e => by omega⟩

theorem take_drop_prefix {α : Type} {rc rc' : List α} (p : rc <+: rc') {off n : Nat} (h : off + n ≤ rc.length) : (rc'.drop off).take n = (rc.drop off).take n := by
  obtain ⟨t, rfl⟩ := p
  rw [List.drop_append_of_le_length (by omega), List.take_append_of_le_length (by simp; omega)]

mutual
theorem VRel.mono {G G' : Ghost} (h : Ext G G') : ∀ {x : VVal} {v : Value}, VRel G x v → VRel G' x v
  | .undef, _, _ => by simp only [VRel]
  | .bool b, _, k => by simpa only [VRel] using k
  | .int _ n, _, k => by simpa only [VRel] using k
  | .str s, _, k => by simpa only [VRel] using k
  | .nilp, _, k => by simpa only [VRel] using k
  | .ptr o off, _, k => by
    simp only [VRel] at k ⊢
    obtain ⟨b, e, r⟩ := k
    exact ⟨b, h.obj _ _ e, r⟩
  | .lptr s ver off, _, k => by
    simp only [VRel] at k ⊢
    obtain ⟨b, e, r⟩ := k
    exact ⟨b, h.loc _ _ _ e, r⟩
  | .iptr cells, _, k => by
    simp only [VRel] at k ⊢
    obtain ⟨b, off, rc, total, e, r, l, c⟩ := k
    obtain ⟨rc', e', p⟩ := h.row _ _ _ e
    exact ⟨b, off, rc', total, e', r, Nat.le_trans l p.length_le, by rw [take_drop_prefix p l]; exact VRels.mono h c⟩
  | .slice cells len cap, _, k => by
    simp only [VRel] at k ⊢
    obtain ⟨a, rcap, r, l, c, s⟩ := k
    refine ⟨a, rcap, r, l, c.mono h, ?_⟩
    rcases s with s | ⟨b, off, rc, total, ea, e, l, c⟩
    · exact .inl s
    · obtain ⟨rc', e', p⟩ := h.row _ _ _ e
      exact .inr ⟨b, off, rc', total, ea, e', Nat.le_trans l p.length_le, by rw [take_drop_prefix p l]; exact VRels.mono h c⟩
  | .mslice o off len cap, _, k => by
    simp only [VRel] at k ⊢
    obtain ⟨b, e, r⟩ := k
    exact ⟨b, h.obj _ _ e, r⟩
  | .map none, _, k => by simpa only [VRel] using k
  | .map (some o), _, k => by
    simp only [VRel] at k ⊢
    obtain ⟨b, e, r⟩ := k
    exact ⟨b, h.obj _ _ e, r⟩
  | .func fn first captured, _, k => by
    simp only [VRel] at k ⊢
    obtain ⟨f, c, r, h1, h2⟩ := k
    exact ⟨f, c, r, VRels.mono h h1, VRels.mono h h2⟩
  | .nilFunc, _, k => by simpa only [VRel] using k
  | .iface t x, _, k => by
    simp only [VRel] at k ⊢
    obtain ⟨y, r, e⟩ := k
    exact ⟨y, r, VRel.mono h e⟩
  | .nilIface, _, k => by simpa only [VRel] using k
  | .agg cells, _, k => by
    simp only [VRel] at k ⊢
    obtain ⟨c, r, e, o⟩ := k
    exact ⟨c, r, VRels.mono h e, o⟩
  | .tuple cells, _, k => by
    simp only [VRel] at k ⊢
    obtain ⟨c, r, e⟩ := k
    exact ⟨c, r, VRels.mono h e⟩
  | .yieldv o, _, k => by
    simp only [VRel] at k ⊢
    obtain ⟨b, e, r⟩ := k
    exact ⟨b, h.obj _ _ e, r⟩
  | .rslice _ _ _, _, k => by
    simp only [VRel] at k ⊢
    obtain ⟨a, c, r, l, g⟩ := k
    exact ⟨a, c, r, l, g.mono h⟩
  | .gptr _ _ _ _, _, k => by
    simp only [VRel] at k ⊢
    obtain ⟨a, r, g⟩ := k
    exact ⟨a, r, g.mono h⟩
  | .fptr cells t, _, k => by
    simp only [VRel] at k ⊢
    obtain ⟨b, off, rc, total, e, r, l, c, f⟩ := k
    obtain ⟨rc', e', p⟩ := h.row _ _ _ e
    exact ⟨b, off, rc', total, e', r, Nat.le_trans l p.length_le, by rw [take_drop_prefix p l]; exact VRels.mono h c, f.mono h⟩
theorem VRels.mono {G G' : Ghost} (h : Ext G G') : ∀ {xs : List VVal} {vs : List Value}, VRels G xs vs → VRels G' xs vs
  | [], _, k => by simpa only [VRels] using k
  | x :: xs, _, k => by
    simp only [VRels] at k ⊢
    obtain ⟨y, ys, r, h1, h2⟩ := k
    exact ⟨y, ys, r, VRel.mono h h1, VRels.mono h h2⟩
end

theorem VRels.append {G : Ghost} : ∀ {xs ys : List VVal} {us vs : List Value}, VRels G xs us → VRels G ys vs → VRels G (xs ++ ys) (us ++ vs)
  | [], _, _, _, h, k => by simp only [VRels] at h; subst h; simpa using k
  | x :: xs, _, _, _, h, k => by
    simp only [VRels] at h
    obtain ⟨y, zs, rfl, h1, h2⟩ := h
    simp only [List.cons_append, VRels]
    exact ⟨y, _, rfl, h1, h2.append k⟩

theorem VRels.drop {G : Ghost} : ∀ {xs : List VVal} {us : List Value} (n : Nat), VRels G xs us → VRels G (xs.drop n) (us.drop n)
  | _, _, 0, h => by simpa using h
  | [], _, n + 1, h => by simp only [VRels] at h; subst h; simp [VRels]
  | x :: xs, _, n + 1, h => by
    simp only [VRels] at h
    obtain ⟨y, zs, rfl, h1, h2⟩ := h
    simpa using h2.drop n

theorem VRels.take {G : Ghost} : ∀ {xs : List VVal} {us : List Value} (n : Nat), VRels G xs us → VRels G (xs.take n) (us.take n)
  | _, _, 0, h => by simp [VRels]
  | [], _, n + 1, h => by simp only [VRels] at h; subst h; simp [VRels]
  | x :: xs, _, n + 1, h => by
    simp only [VRels] at h
    obtain ⟨y, zs, rfl, h1, h2⟩ := h
    simp only [List.take_succ_cons, VRels]
    exact ⟨y, _, rfl, h1, h2.take n⟩

theorem VRels.get {G : Ghost} : ∀ {xs : List VVal} {us : List Value} {i : Nat} {x : VVal}, VRels G xs us → xs[i]? = some x → ∃ u, us[i]? = some u ∧ VRel G x u
  | [], _, _, _, _, e => by simp at e
  | x :: xs, _, 0, _, h, e => by
    simp only [VRels] at h
    obtain ⟨y, zs, rfl, h1, h2⟩ := h
    simp at e; subst e
    exact ⟨y, rfl, h1⟩
  | x :: xs, _, n + 1, _, h, e => by
    simp only [VRels] at h
    obtain ⟨y, zs, rfl, h1, h2⟩ := h
    simp at e
    simpa using h2.get e

theorem VRels.set {G : Ghost} : ∀ {xs : List VVal} {us : List Value} (i : Nat) {x : VVal} {u : Value}, VRels G xs us → VRel G x u → VRels G (xs.set i x) (us.set i u)
  | [], _, _, _, _, h, _ => by simp only [VRels] at h; subst h; simp [VRels]
  | x :: xs, _, 0, _, _, h, e => by
    simp only [VRels] at h
    obtain ⟨y, zs, rfl, h1, h2⟩ := h
    simp only [List.set_cons_zero, VRels]
    exact ⟨_, _, rfl, e, h2⟩
  | x :: xs, _, n + 1, _, _, h, e => by
    simp only [VRels] at h
    obtain ⟨y, zs, rfl, h1, h2⟩ := h
    simp only [List.set_cons_succ, VRels]
    exact ⟨_, _, rfl, h1, h2.set n e⟩

end Go.Pv

/- The virtual memory against the world. -/
namespace Go.Pv

def upd {α : Type} (f : Nat → α) (k : Nat) (v : α) : Nat → α := fun i => if i = k then v else f i
@[simp] theorem upd_same {α : Type} (f : Nat → α) (k : Nat) (v : α) : upd f k v k = v := by simp [upd]
theorem upd_ne {α : Type} (f : Nat → α) {k i : Nat} (v : α) (h : i ≠ k) : upd f k v i = f i := by simp [upd, h]

structure VMem where
  ob : Nat → Option VObj
  fm : Nat → Option Nat
  lc : Nat → Nat → Option (List VVal)
  gr : Nat → Option (List VVal)
  bd : Option Nat
  ty : Nat → Option TypeId

mutual
/-- Are two keys the same? (They are of one type.) -/
def sameKey : VVal → VVal → Option Bool
  | .int k a, .int k' b => if k = k' then some (a == b) else none
  | .str a, .str b => some (a == b)
  | .bool a, .bool b => some (a == b)
  | .agg xs, .agg ys => sameKeys xs ys
  | _, _ => none
def sameKeys : List VVal → List VVal → Option Bool
  | [], [] => some true
  | x :: xs, y :: ys => match sameKey x y with
    | some true => sameKeys xs ys
    | some false => some false
    | none => none
  | _, _ => none
end

def EntRel (G : Ghost) (e : VEnt) (r : MapEntry) : Prop := VRel G e.key r.key ∧ VRel G e.val r.val
def EntsRel (G : Ghost) : List VEnt → List MapEntry → Prop
  | [], l => l = []
  | x :: xs, l => ∃ y ys, l = y :: ys ∧ EntRel G x y ∧ EntsRel G xs ys

theorem EntsRel.mono {G G' : Ghost} (h : Ext G G') : ∀ {xs : List VEnt} {ys : List MapEntry}, EntsRel G xs ys → EntsRel G' xs ys
  | [], _, k => k
  | x :: xs, _, k => by
    obtain ⟨y, ys, r, ⟨h1, h2⟩, h4⟩ := k
    exact ⟨y, ys, r, ⟨VRel.mono h h1, VRel.mono h h2⟩, EntsRel.mono h h4⟩

/-- A map's entries, in whatever order. -/
def MapRel (G : Ghost) (es : List VEnt) (res : Array MapEntry) (clock : Nat) : Prop :=
  ∃ l, EntsRel G es l ∧ l.Perm res.toList ∧ es.Pairwise (fun a b => sameKey a.key b.key = some false) ∧ (res.toList.map (·.born)).Nodup ∧ ∀ e ∈ res.toList, e.born < clock

theorem MapRel.mono {G G' : Ghost} (h : Ext G G') {es : List VEnt} {res : Array MapEntry} {clock : Nat} (k : MapRel G es res clock) : MapRel G' es res clock := by
  obtain ⟨l, h1, r⟩ := k
  exact ⟨l, EntsRel.mono h h1, r⟩

/-- What an iterator that no step was taken with is. -/
def IterIs (G : Ghost) (m : Option Nat) (since : Nat) (x : Obj) : Prop :=
  match m with
  | none => x = .mapIter none 0 #[] 0
  | some m => ∃ bm, G.kind bm = .obj m ∧ x = .mapIter (some bm) since #[] since

theorem IterIs.mono {G G' : Ghost} (h : Ext G G') {m : Option Nat} {since : Nat} {x : Obj} (k : IterIs G m since x) : IterIs G' m since x := by
  cases m with
  | none => exact k
  | some m => obtain ⟨bm, h1, h2⟩ := k; exact ⟨bm, h.obj _ _ h1, h2⟩

def ObjAt (G : Ghost) (w : World) (o : Nat) : VObj → Prop
  | .cells vs => ∃ b cs E, G.kind b = .obj o ∧ w.heap[b]? = some (.cells cs E (0, 0)) ∧ VRels G vs cs.toList ∧ Ones cs.toList
  | .map es clock => ∃ b res, G.kind b = .obj o ∧ w.heap[b]? = some (.map res clock) ∧ MapRel G es res clock
  | .raw r => ∃ b, G.kind b = .obj o ∧ w.heap[b]? = some r
  | .loop L => ∃ b r, G.kind b = .obj o ∧ w.heap[b]? = some (.loop r) ∧ r.state = L.state ∧ r.pending = L.pending ∧ r.params = L.params ∧ r.assign = L.assign ∧ r.body = L.body ∧
      r.tmps.size = L.n ∧ ∀ k, VRel G (L.tm k) (r.tmps.getD k undef)
  | .iter m since => ∃ b x, G.kind b = .obj o ∧ w.heap[b]? = some x ∧ IterIs G m since x

def LocAt (G : Ghost) (w : World) (s v : Nat) (vs : List VVal) : Prop :=
  ∃ b cs E, G.kind b = .loc s v ∧ w.heap[b]? = some (.cells cs E (0, 0)) ∧ VRels G vs cs.toList ∧ Ones cs.toList

def FamAt (G : Ghost) (t n : Nat) : Prop := ∃ b rc total, G.fam t = some (b, n) ∧ G.kind b = .row rc total ∧ rc.length = n

def RowAt (w : World) (b : Nat) (rc : List Value) (total : Nat) : Prop :=
  ∃ c E fr, w.heap[b]? = some (.cells c E fr) ∧ c.size = total ∧ rc <+: c.toList ∧ fr.2 ≤ rc.length ∧ Ones rc

/-- The row that a growing family has now. -/
def GrowAt (G : Ghost) (w : World) (t : Nat) (vs : List VVal) : Prop :=
  ∃ b total cs E fr, G.fam t = some (b, vs.length) ∧ G.kind b = .grow t total ∧ w.heap[b]? = some (.cells cs E fr) ∧ cs.size = total ∧ vs.length ≤ total ∧ VRels G vs (cs.toList.take vs.length) ∧ Ones (cs.toList.take vs.length) ∧ fr = (0, 0)

/-- Of which type the cells of a named object, and of a family's row, are. -/
def TyAt (G : Ghost) (w : World) (k : Nat) (e : TypeId) : Prop :=
  k < G.bound ∧ (∀ b, G.kind b = .obj k → ∃ c fr, w.heap[b]? = some (.cells c e fr)) ∧ (∀ b n, G.fam k = some (b, n) → ∃ c fr, w.heap[b]? = some (.cells c e fr))

structure MemOk (M : VMem) (G : Ghost) (w : World) : Prop where
  ob : ∀ o x, M.ob o = some x → ObjAt G w o x
  lc : ∀ s v vs, M.lc s v = some vs → LocAt G w s v vs
  fm : ∀ t n, M.fm t = some n → FamAt G t n
  rows : ∀ b rc total, G.kind b = .row rc total → RowAt w b rc total
  lt : ∀ b, G.kind b ≠ .free → b < w.heap.size
  obB : ∀ b o, G.kind b = .obj o → o < G.bound
  lcB : ∀ b s v, G.kind b = .loc s v → v < G.bound
  fmB : ∀ t p, G.fam t = some p → t < G.bound
  grB : ∀ b t n, G.kind b = .grow t n → t < G.bound
  obI : ∀ b b' o, G.kind b = .obj o → G.kind b' = .obj o → b = b'
  lcI : ∀ b b' s v, G.kind b = .loc s v → G.kind b' = .loc s v → b = b'
  fmI : ∀ t t' b n n', G.fam t = some (b, n) → G.fam t' = some (b, n') → t = t'
  fmK : ∀ t b n, G.fam t = some (b, n) → (∃ rc total, G.kind b = .row rc total) ∨ ∃ total, G.kind b = .grow t total
  bd : ∀ n, M.bd = some n → G.bound = n
  gr : ∀ t vs, M.gr t = some vs → GrowAt G w t vs
  ty : ∀ k e, M.ty k = some e → TyAt G w k e

/-- The blocks that the virtual memory may turn. -/
def Acc (M : VMem) (G : Ghost) (b : Nat) : Prop :=
  match G.kind b with
  | .free => False
  | .obj o => M.ob o ≠ none
  | .loc s v => M.lc s v ≠ none
  | .row _ _ => ∃ t n, G.fam t = some (b, n) ∧ M.fm t ≠ none
  | .grow t _ => M.gr t ≠ none

structure Trans (M : VMem) (G : Ghost) (w : World) (M' : VMem) (G' : Ghost) (w' : World) : Prop where
  ext : Ext G G'
  size : w.heap.size ≤ w'.heap.size
  dob : ∀ o, M'.ob o ≠ none → M.ob o ≠ none ∨ G.bound ≤ o
  dlc : ∀ s v, M'.lc s v ≠ none → M.lc s v ≠ none ∨ G.bound ≤ v
  dfm : ∀ t, M'.fm t ≠ none → M.fm t ≠ none ∨ G.bound ≤ t
  dgr : ∀ t, M'.gr t ≠ none → M.gr t ≠ none ∨ G.bound ≤ t
  keep : ∀ b, b < w.heap.size → ¬ Acc M G b → w'.heap[b]? = w.heap[b]? ∧ G'.kind b = G.kind b
  famold : ∀ t b n, b < w.heap.size → G'.fam t = some (b, n) → ∃ n0, G.fam t = some (b, n0)
  os : w'.os = w.os
  tape : w'.tape = w.tape
  output : w'.output = w.output
  nob : ∀ b o, G'.kind b = .obj o → G.kind b = .obj o ∨ G.bound ≤ o
  dty : ∀ k, M'.ty k ≠ none → M.ty k ≠ none ∨ G.bound ≤ k

theorem Trans.refl (M : VMem) (G : Ghost) (w : World) : Trans M G w M G w :=
  ⟨Ext.refl G, Nat.le_refl _, fun _ h => .inl h, fun _ _ h => .inl h, fun _ h => .inl h, fun _ h => .inl h, fun _ _ _ => ⟨rfl, rfl⟩, fun _ _ n _ h => ⟨n, h⟩, rfl, rfl, rfl, fun _ _ h => .inl h, fun _ h => .inl h⟩

theorem Trans.trans {M M1 M2 : VMem} {G G1 G2 : Ghost} {w w1 w2 : World} (hm : MemOk M G w) (h : Trans M G w M1 G1 w1) (k : Trans M1 G1 w1 M2 G2 w2) : Trans M G w M2 G2 w2 where
  ext := h.ext.trans k.ext
  size := Nat.le_trans h.size k.size
  dob o e := by
    rcases k.dob o e with e | e
    · exact h.dob o e
    · exact .inr (Nat.le_trans h.ext.bound e)
  dlc s v e := by
    rcases k.dlc s v e with e | e
    · exact h.dlc s v e
    · exact .inr (Nat.le_trans h.ext.bound e)
  dfm t e := by
    rcases k.dfm t e with e | e
    · exact h.dfm t e
    · exact .inr (Nat.le_trans h.ext.bound e)
  dgr t e := by
    rcases k.dgr t e with e | e
    · exact h.dgr t e
    · exact .inr (Nat.le_trans h.ext.bound e)
  keep b hb hn := by
    obtain ⟨h1, h2⟩ := h.keep b hb hn
    have hn1 : ¬ Acc M1 G1 b := by
      intro ha
      apply hn
      unfold Acc at ha ⊢
      rw [h2] at ha
      cases hk : G.kind b with
      | free => rw [hk] at ha; exact ha
      | obj o =>
        rw [hk] at ha
        rcases h.dob o ha with e | e
        · exact e
        · have := hm.obB b o hk; omega
      | loc s v =>
        rw [hk] at ha
        rcases h.dlc s v ha with e | e
        · exact e
        · have := hm.lcB b s v hk; omega
      | row rc total =>
        rw [hk] at ha
        obtain ⟨t, n, hf, hmf⟩ := ha
        obtain ⟨n0, hf0⟩ := h.famold t b n hb hf
        refine ⟨t, n0, hf0, ?_⟩
        rcases h.dfm t hmf with e | e
        · exact e
        · have := hm.fmB t _ hf0; omega
      | grow t total =>
        rw [hk] at ha
        rcases h.dgr t ha with e | e
        · exact e
        · have := hm.grB b t total hk; omega
    obtain ⟨k1, k2⟩ := k.keep b (Nat.lt_of_lt_of_le hb h.size) hn1
    exact ⟨k1.trans h1, k2.trans h2⟩
  famold t b n hb e := by
    obtain ⟨n1, e1⟩ := k.famold t b n (Nat.lt_of_lt_of_le hb h.size) e
    exact h.famold t b n1 hb e1
  os := k.os.trans h.os
  tape := k.tape.trans h.tape
  output := k.output.trans h.output
  nob b o e := by
    rcases k.nob b o e with e | e
    · exact h.nob b o e
    · exact .inr (Nat.le_trans h.ext.bound e)
  dty t e := by
    rcases k.dty t e with e | e
    · exact h.dty t e
    · exact .inr (Nat.le_trans h.ext.bound e)

/-- What is dropped costs nothing. -/
structure VMem.Sub (M' M : VMem) : Prop where
  ob : ∀ o x, M'.ob o = some x → M.ob o = some x
  lc : ∀ s v x, M'.lc s v = some x → M.lc s v = some x
  fm : ∀ t n, M'.fm t = some n → M.fm t = some n
  bd : ∀ n, M'.bd = some n → M.bd = some n
  gr : ∀ t vs, M'.gr t = some vs → M.gr t = some vs
  ty : ∀ k e, M'.ty k = some e → M.ty k = some e

theorem MemOk.sub {M M' : VMem} {G : Ghost} {w : World} (h : MemOk M G w) (s : VMem.Sub M' M) : MemOk M' G w :=
  { h with
    ob := fun o x e => h.ob o x (s.ob o x e)
    lc := fun a v vs e => h.lc a v vs (s.lc a v vs e)
    fm := fun t n e => h.fm t n (s.fm t n e)
    bd := fun n e => h.bd n (s.bd n e)
    gr := fun t vs e => h.gr t vs (s.gr t vs e)
    ty := fun k e q => h.ty k e (s.ty k e q) }

theorem Trans.sub {M M' : VMem} (G : Ghost) (w : World) (s : VMem.Sub M' M) : Trans M G w M' G w :=
  { Trans.refl M G w with
    dob := fun o e => .inl (by cases h : M'.ob o with | none => exact absurd h e | some x => rw [s.ob o x h]; simp)
    dlc := fun a v e => .inl (by cases h : M'.lc a v with | none => exact absurd h e | some x => rw [s.lc a v x h]; simp)
    dfm := fun t e => .inl (by cases h : M'.fm t with | none => exact absurd h e | some x => rw [s.fm t x h]; simp)
    dgr := fun t e => .inl (by cases h : M'.gr t with | none => exact absurd h e | some x => rw [s.gr t x h]; simp)
    dty := fun t e => .inl (by cases h : M'.ty t with | none => exact absurd h e | some x => rw [s.ty t x h]; simp) }

theorem ObjAt.mono {G G' : Ghost} {w w' : World} {o : Nat} {x : VObj} (he : Ext G G') (hb : ∀ b, G.kind b = .obj o → w'.heap[b]? = w.heap[b]?) (h : ObjAt G w o x) : ObjAt G' w' o x := by
  cases x with
  | cells vs =>
    obtain ⟨b, cs, E, hk, hw, hr, ho⟩ := h
    exact ⟨b, cs, E, he.obj _ _ hk, (hb b hk).trans hw, VRels.mono he hr, ho⟩
  | map es clock =>
    obtain ⟨b, res, hk, hw, hr⟩ := h
    exact ⟨b, res, he.obj _ _ hk, (hb b hk).trans hw, hr.mono he⟩
  | raw r =>
    obtain ⟨b, hk, hw⟩ := h
    exact ⟨b, he.obj _ _ hk, (hb b hk).trans hw⟩
  | loop L =>
    obtain ⟨b, r, hk, hw, h1, h2, h3, h4, h5, h6, h7⟩ := h
    exact ⟨b, r, he.obj _ _ hk, (hb b hk).trans hw, h1, h2, h3, h4, h5, h6, fun k => VRel.mono he (h7 k)⟩
  | iter m since =>
    obtain ⟨b, x, hk, hw, hi⟩ := h
    exact ⟨b, x, he.obj _ _ hk, (hb b hk).trans hw, hi.mono he⟩

theorem LocAt.mono {G G' : Ghost} {w w' : World} {s v : Nat} {vs : List VVal} (he : Ext G G') (hb : ∀ b, G.kind b = .loc s v → w'.heap[b]? = w.heap[b]?) (h : LocAt G w s v vs) : LocAt G' w' s v vs := by
  obtain ⟨b, cs, E, hk, hw, hr, ho⟩ := h
  exact ⟨b, cs, E, he.loc _ _ _ hk, (hb b hk).trans hw, VRels.mono he hr, ho⟩

theorem GrowAt.mono {G G' : Ghost} {w w' : World} {t : Nat} {vs : List VVal} (he : Ext G G') (hf : ∀ b n, G.fam t = some (b, n) → G'.fam t = some (b, n)) (hb : ∀ b n, G.kind b = .grow t n → w'.heap[b]? = w.heap[b]?) (h : GrowAt G w t vs) : GrowAt G' w' t vs := by
  obtain ⟨b, total, cs, E, fr, h1, h2, h3, h4, h5, h6, h7⟩ := h
  exact ⟨b, total, cs, E, fr, hf _ _ h1, he.grow _ _ _ h2, (hb b _ h2).trans h3, h4, h5, VRels.mono he h6, h7⟩

/-- A world of the same heap. -/
theorem MemOk.heap {M : VMem} {G : Ghost} {w w' : World} (h : MemOk M G w) (e : w'.heap = w.heap) : MemOk M G w' :=
  { h with
    ob := fun o x k => (h.ob o x k).mono (Ext.refl G) (fun _ _ => by rw [e])
    lc := fun s v x k => (h.lc s v x k).mono (Ext.refl G) (fun _ _ => by rw [e])
    rows := fun b rc t k => by obtain ⟨c, E, fr, h1, r⟩ := h.rows b rc t k; exact ⟨c, E, fr, by rw [e]; exact h1, r⟩
    lt := fun b k => by rw [e]; exact h.lt b k
    gr := fun t vs k => (h.gr t vs k).mono (Ext.refl G) (fun _ _ h => h) (fun _ _ _ => by rw [e])
    ty := fun k t q => by obtain ⟨h1, h2, h3⟩ := h.ty k t q; exact ⟨h1, fun b hb => by rw [e]; exact h2 b hb, fun b n hb => by rw [e]; exact h3 b n hb⟩ }

theorem Trans.drew (M : VMem) (G : Ghost) (w : World) : Trans M G w M G w.drew :=
  { Trans.refl M G w with }

theorem MemOk.drew {M : VMem} {G : Ghost} {w : World} (h : MemOk M G w) : MemOk M G w.drew := h.heap rfl

/-! ### New blocks -/
section new
variable {M : VMem} {G : Ghost} {w : World}

theorem MemOk.free_size (h : MemOk M G w) : G.kind w.heap.size = .free := by
  cases e : G.kind w.heap.size with
  | free => rfl
  | _ => have := h.lt w.heap.size (by rw [e]; simp); omega

theorem heap_push_lt (w : World) (o : Obj) {b : Nat} (h : b < w.heap.size) : (w.heap.push o)[b]? = w.heap[b]? := by
  rw [Array.getElem?_push, if_neg (by omega)]
theorem heap_push_new (w : World) (o : Obj) : (w.heap.push o)[w.heap.size]? = some o := by simp

/-- The ghost behind a new block. -/
def Ghost.put (G : Ghost) (b : Nat) (k : Kind) (bound : Nat) : Ghost := { G with kind := upd G.kind b k, bound := bound }

theorem Ext.put {b : Nat} (hf : G.kind b = .free) {k : Kind} {bound : Nat} (hb : G.bound ≤ bound) : Ext G (G.put b k bound) where
  obj c o e := by
    have : c ≠ b := fun h => by rw [h, hf] at e; cases e
    simp [Ghost.put, upd_ne _ _ this, e]
  loc c s v e := by
    have : c ≠ b := fun h => by rw [h, hf] at e; cases e
    simp [Ghost.put, upd_ne _ _ this, e]
  row c rc t e := by
    have : c ≠ b := fun h => by rw [h, hf] at e; cases e
    exact ⟨rc, by simp [Ghost.put, upd_ne _ _ this, e], List.prefix_refl _⟩
  grow c t n e := by
    have : c ≠ b := fun h => by rw [h, hf] at e; cases e
    simp [Ghost.put, upd_ne _ _ this, e]
  bound := hb
  fam t c m _ e := ⟨c, m, e, .inl ⟨rfl, rfl⟩⟩

theorem put_kind_ne {G : Ghost} {b c : Nat} {k : Kind} {bound : Nat} (h : c ≠ b) : (G.put b k bound).kind c = G.kind c := by simp [Ghost.put, upd_ne _ _ h]
theorem put_kind_same {G : Ghost} {b : Nat} {k : Kind} {bound : Nat} : (G.put b k bound).kind b = k := by simp [Ghost.put]

/-- A new block of whatever kind: what lay stays. 'K' is a row, or an object or a box whose name is 'G.bound'. -/
theorem MemOk.push (h : MemOk M G w) (O : Obj) (K : Kind) (bound : Nat) (nb : Option Nat) (hnb : ∀ n, nb = some n → bound = n) (hbound : G.bound ≤ bound)
    (hrow : ∀ rc t, K = .row rc t → RowAt (w.alloc O) w.heap.size rc t)
    (hobj : ∀ o, K = .obj o → o = G.bound ∧ G.bound < bound) (hloc : ∀ s v, K = .loc s v → v = G.bound ∧ G.bound < bound)
    (hgrow : ∀ t n, K = .grow t n → t < bound := by intro _ _ e; cases e) :
    MemOk { M with bd := nb } (G.put w.heap.size K bound) (w.alloc O) ∧ Trans M G w { M with bd := nb } (G.put w.heap.size K bound) (w.alloc O) := by
  have hfree := h.free_size
  have hext : Ext G (G.put w.heap.size K bound) := Ext.put hfree hbound
  have hlt : ∀ b, G.kind b ≠ .free → b ≠ w.heap.size := fun b hb => by have := h.lt b hb; omega
  have hheap : ∀ b, b < w.heap.size → (w.alloc O).heap[b]? = w.heap[b]? := fun b hb => heap_push_lt w O hb
  refine ⟨?_, ?_⟩
  · refine
      { ob := fun o x e => (h.ob o x e).mono hext (fun b hb => hheap b (h.lt b (by rw [hb]; simp)))
        lc := fun s v x e => (h.lc s v x e).mono hext (fun b hb => hheap b (h.lt b (by rw [hb]; simp)))
        fm := fun t n e => ?_
        rows := fun b rc t e => ?_
        lt := fun b e => ?_
        obB := fun b o e => ?_
        lcB := fun b s v e => ?_
        fmB := fun t p e => Nat.lt_of_lt_of_le (h.fmB t p e) hbound
        obI := fun b b' o e e' => ?_
        lcI := fun b b' s v e e' => ?_
        fmI := h.fmI
        fmK := fun t b n e => ?_
        bd := hnb
        grB := fun b t n e => ?_
        gr := fun t vs e => (h.gr t vs e).mono hext (fun _ _ e => e) (fun b n hb => hheap b (h.lt b (by rw [hb]; simp)))
        ty := fun k e q => by
          obtain ⟨h1, h2, h3⟩ := h.ty k e q
          refine ⟨Nat.lt_of_lt_of_le h1 hbound, fun b hb => ?_, fun b n hb => ?_⟩
          · by_cases hq : b = w.heap.size
            · subst hq
              rw [put_kind_same] at hb
              have := (hobj k hb).1
              omega
            · rw [put_kind_ne hq] at hb
              rw [hheap b (h.lt b (by rw [hb]; simp))]
              exact h2 b hb
          · have hlt : b < w.heap.size := by
              rcases h.fmK k b n hb with ⟨_, _, hk⟩ | ⟨_, hk⟩ <;> exact h.lt b (by rw [hk]; simp)
            rw [hheap b hlt]
            exact h3 b n hb }
    · obtain ⟨b, rc, total, h1, h2, h3⟩ := h.fm t n e
      exact ⟨b, rc, total, h1, by rw [put_kind_ne (hlt b (by rw [h2]; simp))]; exact h2, h3⟩
    · by_cases hb : b = w.heap.size
      · subst hb
        rw [put_kind_same] at e
        exact hrow rc t e
      · rw [put_kind_ne hb] at e
        obtain ⟨c, E, fr, h1, r⟩ := h.rows b rc t e
        exact ⟨c, E, fr, by rw [hheap b (h.lt b (by rw [e]; simp))]; exact h1, r⟩
    · by_cases hb : b = w.heap.size
      · subst hb; simp
      · rw [put_kind_ne hb] at e
        have := h.lt b e
        simp; omega
    · by_cases hb : b = w.heap.size
      · subst hb
        rw [put_kind_same] at e
        obtain ⟨rfl, hlt⟩ := hobj o e
        exact hlt
      · rw [put_kind_ne hb] at e
        exact Nat.lt_of_lt_of_le (h.obB b o e) hbound
    · by_cases hb : b = w.heap.size
      · subst hb
        rw [put_kind_same] at e
        obtain ⟨rfl, hlt⟩ := hloc s v e
        exact hlt
      · rw [put_kind_ne hb] at e
        exact Nat.lt_of_lt_of_le (h.lcB b s v e) hbound
    · by_cases hb : b = w.heap.size
      · subst hb
        rw [put_kind_same] at e
        exact hgrow t n e
      · rw [put_kind_ne hb] at e
        exact Nat.lt_of_lt_of_le (h.grB b t n e) hbound
    · by_cases hb : b = w.heap.size <;> by_cases hb' : b' = w.heap.size
      · omega
      · subst hb
        rw [put_kind_same] at e
        rw [put_kind_ne hb'] at e'
        have := h.obB b' o e'
        have := (hobj o e).1
        omega
      · subst hb'
        rw [put_kind_same] at e'
        rw [put_kind_ne hb] at e
        have := h.obB b o e
        have := (hobj o e').1
        omega
      · rw [put_kind_ne hb] at e
        rw [put_kind_ne hb'] at e'
        exact h.obI b b' o e e'
    · by_cases hb : b = w.heap.size <;> by_cases hb' : b' = w.heap.size
      · omega
      · subst hb
        rw [put_kind_same] at e
        rw [put_kind_ne hb'] at e'
        have := h.lcB b' s v e'
        have := (hloc s v e).1
        omega
      · subst hb'
        rw [put_kind_same] at e'
        rw [put_kind_ne hb] at e
        have := h.lcB b s v e
        have := (hloc s v e').1
        omega
      · rw [put_kind_ne hb] at e
        rw [put_kind_ne hb'] at e'
        exact h.lcI b b' s v e e'
    · rcases h.fmK t b n e with ⟨rc, total, hk⟩ | ⟨total, hk⟩
      · exact .inl ⟨rc, total, by rw [put_kind_ne (hlt b (by rw [hk]; simp))]; exact hk⟩
      · exact .inr ⟨total, by rw [put_kind_ne (hlt b (by rw [hk]; simp))]; exact hk⟩
  · exact
      { ext := hext
        size := by simp
        dob := fun _ e => .inl e
        dlc := fun _ _ e => .inl e
        dfm := fun _ e => .inl e
        dgr := fun _ e => .inl e
        keep := fun b hb _ => ⟨hheap b hb, put_kind_ne (by omega)⟩
        famold := fun t b n _ e => ⟨n, e⟩
        os := rfl, tape := rfl, output := rfl
        nob := fun b o e => by
          by_cases hb : b = w.heap.size
          · subst hb
            rw [put_kind_same] at e
            obtain ⟨rfl, _⟩ := hobj o e
            exact .inr (Nat.le_refl _)
          · rw [put_kind_ne hb] at e; exact .inl e
        dty := fun _ e => .inl e }

theorem MemOk.bump (h : MemOk M G w) : ∀ n, M.bd.map (· + 1) = some n → G.bound + 1 = n := fun n e => by
  cases hb : M.bd with
  | none => rw [hb] at e; cases e
  | some m => rw [hb] at e; simp at e; have := h.bd m hb; omega

/-- A new heap object of cells. -/
theorem MemOk.pushCells (h : MemOk M G w) (vs : List VVal) (cs : Array Value) (E : TypeId) (hr : VRels G vs cs.toList) (ho : Ones cs.toList) :
    MemOk { M with ob := upd M.ob G.bound (some (.cells vs)), bd := M.bd.map (· + 1), ty := upd M.ty G.bound (some E) } (G.put w.heap.size (.obj G.bound) (G.bound + 1)) (w.alloc (.cells cs E)) ∧
    Trans M G w { M with ob := upd M.ob G.bound (some (.cells vs)), bd := M.bd.map (· + 1), ty := upd M.ty G.bound (some E) } (G.put w.heap.size (.obj G.bound) (G.bound + 1)) (w.alloc (.cells cs E)) := by
  obtain ⟨h1, t1⟩ := h.push (.cells cs E) (.obj G.bound) (G.bound + 1) (M.bd.map (· + 1)) h.bump (by omega) (fun _ _ e => by cases e) (fun o e => by cases e; exact ⟨rfl, by omega⟩) (fun _ _ e => by cases e)
  refine ⟨{ h1 with
    ob := fun o x e => ?_
    ty := fun k e q => by
      by_cases hq : k = G.bound
      · subst hq
        simp at q
        subst q
        refine ⟨by simp [Ghost.put], fun b hb => ?_, fun b n hb => ?_⟩
        · by_cases hbb : b = w.heap.size
          · subst hbb; exact ⟨cs, (0, 0), heap_push_new w _⟩
          · rw [put_kind_ne hbb] at hb
            have := h.obB b _ hb
            omega
        · have := h.fmB G.bound (b, n) hb
          omega
      · simp only [upd_ne _ _ hq] at q
        exact h1.ty k e q }, { t1 with dob := fun o e => ?_, dty := fun k e => ?_ }⟩
  · by_cases hq : o = G.bound
    · subst hq
      simp at e
      subst e
      exact ⟨w.heap.size, cs, E, put_kind_same, heap_push_new w _, VRels.mono t1.ext hr, ho⟩
    · simp only [upd_ne _ _ hq] at e
      exact h1.ob o x e
  · by_cases hq : o = G.bound
    · exact .inr (by omega)
    · simp only [upd_ne _ _ hq] at e
      exact .inl e
  · by_cases hq : k = G.bound
    · exact .inr (by omega)
    · simp only [upd_ne _ _ hq] at e
      exact .inl e

/-- A new heap object that is no row of cells. -/
theorem MemOk.pushObj (h : MemOk M G w) (x : VObj) (O : Obj) (hx : ∀ G', Ext G G' → G'.kind w.heap.size = .obj G.bound → ObjAt G' (w.alloc O) G.bound x) :
    MemOk { M with ob := upd M.ob G.bound (some x), bd := M.bd.map (· + 1) } (G.put w.heap.size (.obj G.bound) (G.bound + 1)) (w.alloc O) ∧
    Trans M G w { M with ob := upd M.ob G.bound (some x), bd := M.bd.map (· + 1) } (G.put w.heap.size (.obj G.bound) (G.bound + 1)) (w.alloc O) := by
  obtain ⟨h1, t1⟩ := h.push O (.obj G.bound) (G.bound + 1) (M.bd.map (· + 1)) h.bump (by omega) (fun _ _ e => by cases e) (fun o e => by cases e; exact ⟨rfl, by omega⟩) (fun _ _ e => by cases e)
  refine ⟨{ h1 with ob := fun o y e => ?_ }, { t1 with dob := fun o e => ?_ }⟩
  · by_cases hq : o = G.bound
    · subst hq
      simp at e
      subst e
      exact hx _ t1.ext put_kind_same
    · simp only [upd_ne _ _ hq] at e
      exact h1.ob o y e
  · by_cases hq : o = G.bound
    · exact .inr (by omega)
    · simp only [upd_ne _ _ hq] at e
      exact .inl e

def updl (f : Nat → Nat → Option (List VVal)) (s v : Nat) (x : Option (List VVal)) : Nat → Nat → Option (List VVal) := fun i j => if i = s ∧ j = v then x else f i j

/-- A new box of the frame's own. -/
theorem MemOk.pushLoc (h : MemOk M G w) (s : Nat) (vs : List VVal) (cs : Array Value) (E : TypeId) (hr : VRels G vs cs.toList) (ho : Ones cs.toList) :
    MemOk { M with lc := updl M.lc s G.bound (some vs), bd := M.bd.map (· + 1) } (G.put w.heap.size (.loc s G.bound) (G.bound + 1)) (w.alloc (.cells cs E)) ∧
    Trans M G w { M with lc := updl M.lc s G.bound (some vs), bd := M.bd.map (· + 1) } (G.put w.heap.size (.loc s G.bound) (G.bound + 1)) (w.alloc (.cells cs E)) := by
  obtain ⟨h1, t1⟩ := h.push (.cells cs E) (.loc s G.bound) (G.bound + 1) (M.bd.map (· + 1)) h.bump (by omega) (fun _ _ e => by cases e) (fun _ e => by cases e) (fun o v e => by cases e; exact ⟨rfl, by omega⟩)
  refine ⟨{ h1 with lc := fun s' v' x e => ?_ }, { t1 with dlc := fun s' v' e => ?_ }⟩
  · by_cases hq : s' = s ∧ v' = G.bound
    · obtain ⟨rfl, rfl⟩ := hq
      simp [updl] at e
      subst e
      exact ⟨w.heap.size, cs, E, put_kind_same, heap_push_new w _, VRels.mono t1.ext hr, ho⟩
    · simp only [updl, if_neg hq] at e
      exact h1.lc s' v' x e
  · by_cases hq : s' = s ∧ v' = G.bound
    · exact .inr (by omega)
    · simp only [updl, if_neg hq] at e
      exact .inl e

/-- A new row of cells that stay. -/
theorem MemOk.pushRow (h : MemOk M G w) (rc : List Value) (cs : Array Value) (E : TypeId) (hp : rc <+: cs.toList) (ho : Ones rc) :
    MemOk M (G.put w.heap.size (.row rc cs.size) G.bound) (w.alloc (.cells cs E)) ∧
    Trans M G w M (G.put w.heap.size (.row rc cs.size) G.bound) (w.alloc (.cells cs E)) :=
  h.push (.cells cs E) (.row rc cs.size) G.bound M.bd h.bd (Nat.le_refl _)
    (fun rc' t e => by cases e; exact ⟨cs, E, (0, 0), heap_push_new w _, rfl, hp, by simp, ho⟩) (fun _ e => by cases e) (fun _ _ e => by cases e)

end new
end Go.Pv

/- Stores, families, maps. -/
namespace Go.Pv

def splice {α : Type} (xs : List α) (off : Nat) (ys : List α) : List α := xs.take off ++ ys ++ xs.drop (off + ys.length)

theorem VRels.splice {G : Ghost} {xs ys : List VVal} {us vs : List Value} (off : Nat) (h : VRels G xs us) (k : VRels G ys vs) : VRels G (splice xs off ys) (Pv.splice us off vs) := by
  unfold Pv.splice
  rw [← k.length]
  exact ((h.take off).append k).append (h.drop _)

theorem Ones.splice {us vs : List Value} (off : Nat) (h : Ones us) (k : Ones vs) : Ones (Pv.splice us off vs) := by
  unfold Pv.splice
  exact ((h.take off).append k).append (h.drop _)

/-- A run of stores. -/
def setCells (w : World) (b off : Nat) : List Value → World
  | [] => w
  | v :: vs => setCells (w.setCell ⟨b, off, none⟩ v) b (off + 1) vs

theorem setCells_heap_ne (vs : List Value) : ∀ (w : World) (b off b' : Nat), b' ≠ b → (setCells w b off vs).heap[b']? = w.heap[b']? := by
  induction vs with
  | nil => intro w b off b' _; rfl
  | cons v vs ih =>
    intro w b off b' h
    rw [setCells, ih _ _ _ _ h]
    simp only [World.setCell, Array.getElem?_modify]
    rw [if_neg (by omega)]

theorem setCells_same (vs : List Value) : ∀ (w : World) (b off : Nat), (setCells w b off vs).heap.size = w.heap.size ∧ (setCells w b off vs).os = w.os ∧ (setCells w b off vs).tape = w.tape ∧ (setCells w b off vs).output = w.output := by
  induction vs with
  | nil => intro w b off; exact ⟨rfl, rfl, rfl, rfl⟩
  | cons v vs ih =>
    intro w b off
    obtain ⟨h1, h2, h3, h4⟩ := ih (w.setCell ⟨b, off, none⟩ v) b (off + 1)
    exact ⟨h1.trans (by simp), h2, h3, h4⟩

theorem setCell_heap {w : World} {b off : Nat} {v : Value} {c : Array Value} {E : TypeId} {fr : Nat × Nat} (h : w.heap[b]? = some (.cells c E fr)) :
    (w.setCell ⟨b, off, none⟩ v).heap[b]? = some (.cells (c.setIfInBounds off v) E fr) := by
  simp only [World.setCell, Array.getElem?_modify, if_true, h, Option.map_some]
  rfl

theorem setCells_heap (vs : List Value) : ∀ (w : World) (b off : Nat) (c : Array Value) (E : TypeId) (fr : Nat × Nat), w.heap[b]? = some (.cells c E fr) → off + vs.length ≤ c.size →
    ∃ c', (setCells w b off vs).heap[b]? = some (.cells c' E fr) ∧ c'.toList = splice c.toList off vs ∧ c'.size = c.size := by
  induction vs with
  | nil =>
    intro w b off c E fr h _
    exact ⟨c, h, by simp [splice], rfl⟩
  | cons v vs ih =>
    intro w b off c E fr h hl
    simp only [List.length_cons] at hl
    obtain ⟨c', h1, h2, h3⟩ := ih _ b (off + 1) _ E fr (setCell_heap (off := off) (v := v) h) (by simp; omega)
    refine ⟨c', h1, ?_, by rw [h3]; simp⟩
    rw [h2]
    simp only [splice, Array.toList_setIfInBounds, List.length_cons]
    rw [List.take_set, List.drop_set, if_pos (by omega)]
    have e1 : ((c.toList.take (off + 1)).set off v) = c.toList.take off ++ [v] := by
      have hm : min off c.size = off := by omega
      rw [List.take_succ_eq_append_getElem (by simp; omega)]
      rw [List.set_append_right _ _ (by simp; omega)]
      simp [hm]
    rw [e1]
    simp only [List.append_assoc, List.cons_append, List.nil_append]
    congr 4
    omega

section
variable {P : Program}

theorem run_store_plain (w : World) (a : Addr) (v : Value) (hv : v.oneCell' = true) {u : Value} (h : w.cell? a = some u) (hf : w.frozen? a = false) :
    (store a v).run P w = .ok () (w.setCell a v) := by
  rw [run_store P w a v .plain hv, h]
  simp [hf]

/-- 'storeCells' over a row's cells that may be written. -/
theorem run_storeCells (vs : List Value) : ∀ (w : World) (b off i : Nat) (c : Array Value) (E : TypeId) (fr : Nat × Nat), w.heap[b]? = some (.cells c E fr) → off + i + vs.length ≤ c.size → (fr.2 ≤ off + i ∨ fr.2 = 0) → Ones vs →
    (storeCells ⟨b, off, none⟩ vs i).run P w = .ok () (setCells w b (off + i) vs) := by
  induction vs with
  | nil => intro w b off i c E fr _ _ _ _; rfl
  | cons v vs ih =>
    intro w b off i c E fr h hl hf ho
    simp only [List.length_cons] at hl
    have ha : (⟨b, off, none⟩ : Addr).add i = ⟨b, off + i, none⟩ := by
      unfold Addr.add
      split
      · next e => subst e; rfl
      · rfl
    rw [storeCells, ha]
    have hc : w.cell? ⟨b, off + i, none⟩ = some c[off + i] := by
      simp only [World.cell?, h]
      simp
    have hz : w.frozen? ⟨b, off + i, none⟩ = false := by
      simp only [World.frozen?, h]
      rcases hf with hf | hf <;> simp <;> omega
    simp only [Sem.run_bind, run_store_plain w _ v (ho v (by simp)) hc hz, Result.andThen_ok]
    rw [ih _ b off (i + 1) _ E fr (setCell_heap h) (by simp; omega) (by omega) (fun x hx => ho x (by simp [hx]))]
    rfl
end

section stores
variable {M : VMem} {G : Ghost} {w : World}

/-- A world in which one block alone has turned, the block of an object or a box that may be turned. -/
theorem MemOk.turn (h : MemOk M G w) {w' : World} (b0 : Nat) (hsz : w'.heap.size = w.heap.size) (hne : ∀ b, b ≠ b0 → w'.heap[b]? = w.heap[b]?)
    (hrow : ∀ rc t, G.kind b0 ≠ .row rc t) (hng : ∀ t n, G.kind b0 ≠ .grow t n) {M' : VMem}
    (hob : ∀ o x, M'.ob o = some x → M.ob o = some x ∨ (G.kind b0 = .obj o ∧ ObjAt G w' o x))
    (hob' : ∀ o x, M.ob o = some x → M'.ob o = some x → G.kind b0 = .obj o → ObjAt G w' o x)
    (hlc : ∀ s v x, M'.lc s v = some x → M.lc s v = some x ∨ (G.kind b0 = .loc s v ∧ LocAt G w' s v x))
    (hlc' : ∀ s v x, M.lc s v = some x → M'.lc s v = some x → G.kind b0 = .loc s v → LocAt G w' s v x)
    (hfm : M'.fm = M.fm) (hE : ∀ c E fr, w.heap[b0]? = some (.cells c E fr) → ∃ c' fr', w'.heap[b0]? = some (.cells c' E fr')) (hbd : M'.bd = M.bd := by rfl) (hgr : M'.gr = M.gr := by rfl) (hty : M'.ty = M.ty := by rfl) : MemOk M' G w' :=
  { h with
    ob := fun o x e => by
      by_cases hk : G.kind b0 = .obj o
      · rcases hob o x e with e' | ⟨_, r⟩
        · exact hob' o x e' e hk
        · exact r
      · rcases hob o x e with e' | ⟨hk', _⟩
        · exact (h.ob o x e').mono (Ext.refl G) (fun b hb => hne b (fun q => by subst q; exact hk hb))
        · exact absurd hk' hk
    lc := fun s v x e => by
      by_cases hk : G.kind b0 = .loc s v
      · rcases hlc s v x e with e' | ⟨_, r⟩
        · exact hlc' s v x e' e hk
        · exact r
      · rcases hlc s v x e with e' | ⟨hk', _⟩
        · exact (h.lc s v x e').mono (Ext.refl G) (fun b hb => hne b (fun q => by subst q; exact hk hb))
        · exact absurd hk' hk
    fm := fun t n e => h.fm t n (by rw [hfm] at e; exact e)
    rows := fun b rc t e => by
      obtain ⟨c, E, fr, h1, r⟩ := h.rows b rc t e
      exact ⟨c, E, fr, by rw [hne b (fun q => by subst q; exact hrow rc t e)]; exact h1, r⟩
    lt := fun b e => by rw [hsz]; exact h.lt b e
    bd := fun n e => h.bd n (by rw [hbd] at e; exact e)
    gr := fun t vs e => (h.gr t vs (by rw [hgr] at e; exact e)).mono (Ext.refl G) (fun _ _ h => h) (fun b n hb => hne b (fun q => by subst q; exact hng _ _ hb))
    ty := fun k e q => by
      rw [hty] at q
      obtain ⟨h1, h2, h3⟩ := h.ty k e q
      have key : ∀ b : Nat, (∃ c fr, w.heap[b]? = some (Obj.cells c e fr)) → ∃ c fr, w'.heap[b]? = some (Obj.cells c e fr) := by
        rintro b ⟨c, fr, hc⟩
        by_cases hb : b = b0
        · subst hb; exact hE c e fr hc
        · exact ⟨c, fr, (hne b hb).trans hc⟩
      exact ⟨h1, fun b hb => key b (h2 b hb), fun b n hb => key b (h3 b n hb)⟩ }

theorem Trans.turn {w' : World} {M' : VMem} (b0 : Nat) (hsz : w'.heap.size = w.heap.size) (hne : ∀ b, b ≠ b0 → w'.heap[b]? = w.heap[b]?) (hacc : Acc M G b0)
    (hob : ∀ o, M'.ob o ≠ none → M.ob o ≠ none) (hlc : ∀ s v, M'.lc s v ≠ none → M.lc s v ≠ none) (hfm : M'.fm = M.fm)
    (hos : w'.os = w.os) (ht : w'.tape = w.tape) (ho : w'.output = w.output) (hgr : M'.gr = M.gr := by rfl) (hty : M'.ty = M.ty := by rfl) : Trans M G w M' G w' :=
  { ext := Ext.refl G
    size := by omega
    dob := fun o e => .inl (hob o e)
    dlc := fun s v e => .inl (hlc s v e)
    dfm := fun t e => .inl (by rw [hfm] at e; exact e)
    dgr := fun t e => .inl (by rw [hgr] at e; exact e)
    keep := fun b _ hn => ⟨hne b (fun q => by subst q; exact hn hacc), rfl⟩
    famold := fun _ _ n _ e => ⟨n, e⟩
    os := hos, tape := ht, output := ho
    nob := fun _ _ e => .inl e
    dty := fun _ e => .inl (by rw [hty] at e; exact e) }

/-- A store into a heap object's cells. -/
theorem MemOk.storeObj (h : MemOk M G w) {o : Nat} {vs : List VVal} (ho : M.ob o = some (.cells vs)) {off : Nat} {xs : List VVal} {us : List Value} (hl : off + xs.length ≤ vs.length) (hx : VRels G xs us) (hu : Ones us) :
    ∃ b, G.kind b = .obj o ∧ (∃ c E, w.heap[b]? = some (.cells c E (0, 0)) ∧ c.size = vs.length) ∧
      MemOk { M with ob := upd M.ob o (some (.cells (splice vs off xs))) } G (setCells w b off us) ∧
      Trans M G w { M with ob := upd M.ob o (some (.cells (splice vs off xs))) } G (setCells w b off us) := by
  obtain ⟨b, cs, E, hk, hw, hr, hon⟩ := h.ob o _ ho
  have hlen := hr.length
  have hxl := hx.length
  obtain ⟨hs1, hs2, hs3, hs4⟩ := setCells_same us w b off
  obtain ⟨c', h1, h2, h3⟩ := setCells_heap us w b off cs E (0, 0) hw (by rw [← Array.length_toList]; omega)
  have hnew : ObjAt G (setCells w b off us) o (.cells (splice vs off xs)) := ⟨b, c', E, hk, h1, by rw [h2]; exact hr.splice off hx, by rw [h2]; exact hon.splice off hu⟩
  refine ⟨b, hk, ⟨cs, E, hw, by rw [← Array.length_toList]; omega⟩, ?_, ?_⟩
  · refine h.turn b hs1 (fun b' hb => setCells_heap_ne us w b off b' hb) (fun rc t e => by rw [hk] at e; cases e) (fun t n e => by rw [hk] at e; cases e) ?_ ?_ (fun s v x e => .inl e) (fun s v x _ _ e => by rw [hk] at e; cases e) rfl (fun c0 E0 fr0 e => by rw [hw] at e; cases e; exact ⟨c', _, h1⟩)
    · intro o' x e
      by_cases hq : o' = o
      · subst hq
        simp at e; subst e
        exact .inr ⟨hk, hnew⟩
      · simp only [upd_ne _ _ hq] at e
        exact .inl e
    · intro o' x _ e hk'
      rw [hk] at hk'; cases hk'
      simp at e; subst e
      exact hnew
  · refine Trans.turn b hs1 (fun b' hb => setCells_heap_ne us w b off b' hb) (by simp only [Acc, hk]; rw [ho]; simp) ?_ (fun _ _ e => e) rfl hs2 hs3 hs4
    intro o' e
    by_cases hq : o' = o
    · subst hq; rw [ho]; simp
    · simp only [upd_ne _ _ hq] at e
      exact e

/-- A store into a box of the frame's own. -/
theorem MemOk.storeLoc (h : MemOk M G w) {s v : Nat} {vs : List VVal} (ho : M.lc s v = some vs) {off : Nat} {xs : List VVal} {us : List Value} (hl : off + xs.length ≤ vs.length) (hx : VRels G xs us) (hu : Ones us) :
    ∃ b, G.kind b = .loc s v ∧ (∃ c E, w.heap[b]? = some (.cells c E (0, 0)) ∧ c.size = vs.length) ∧
      MemOk { M with lc := updl M.lc s v (some (splice vs off xs)) } G (setCells w b off us) ∧
      Trans M G w { M with lc := updl M.lc s v (some (splice vs off xs)) } G (setCells w b off us) := by
  obtain ⟨b, cs, E, hk, hw, hr, hon⟩ := h.lc s v _ ho
  have hlen := hr.length
  have hxl := hx.length
  obtain ⟨hs1, hs2, hs3, hs4⟩ := setCells_same us w b off
  obtain ⟨c', h1, h2, h3⟩ := setCells_heap us w b off cs E (0, 0) hw (by rw [← Array.length_toList]; omega)
  have hnew : LocAt G (setCells w b off us) s v (splice vs off xs) := ⟨b, c', E, hk, h1, by rw [h2]; exact hr.splice off hx, by rw [h2]; exact hon.splice off hu⟩
  refine ⟨b, hk, ⟨cs, E, hw, by rw [← Array.length_toList]; omega⟩, ?_, ?_⟩
  · refine h.turn b hs1 (fun b' hb => setCells_heap_ne us w b off b' hb) (fun rc t e => by rw [hk] at e; cases e) (fun t n e => by rw [hk] at e; cases e) (fun o x e => .inl e) (fun o x _ _ e => by rw [hk] at e; cases e) ?_ ?_ rfl (fun c0 E0 fr0 e => by rw [hw] at e; cases e; exact ⟨c', _, h1⟩)
    · intro s' v' x e
      by_cases hq : s' = s ∧ v' = v
      · obtain ⟨rfl, rfl⟩ := hq
        simp [updl] at e; subst e
        exact .inr ⟨hk, hnew⟩
      · simp only [updl, if_neg hq] at e
        exact .inl e
    · intro s' v' x _ e hk'
      rw [hk] at hk'; cases hk'
      simp [updl] at e; subst e
      exact hnew
  · refine Trans.turn b hs1 (fun b' hb => setCells_heap_ne us w b off b' hb) (by simp only [Acc, hk]; rw [ho]; simp) (fun _ e => e) ?_ rfl hs2 hs3 hs4
    intro s' v' e
    by_cases hq : s' = s ∧ v' = v
    · obtain ⟨rfl, rfl⟩ := hq; rw [ho]; simp
    · simp only [updl, if_neg hq] at e
      exact e

/-- A heap object that is no row of cells, put anew. -/
theorem MemOk.putObj (h : MemOk M G w) {o : Nat} {x : VObj} (ho : M.ob o = some x) {b : Nat} (hk : G.kind b = .obj o) (x' : VObj) (O : Obj) (hnc : ∀ c E fr, w.heap[b]? ≠ some (Obj.cells c E fr))
    (hx : ObjAt G { w with heap := w.heap.setIfInBounds b O } o x') :
    MemOk { M with ob := upd M.ob o (some x') } G { w with heap := w.heap.setIfInBounds b O } ∧
    Trans M G w { M with ob := upd M.ob o (some x') } G { w with heap := w.heap.setIfInBounds b O } := by
  have hne : ∀ b', b' ≠ b → (w.heap.setIfInBounds b O)[b']? = w.heap[b']? := fun b' hb => by
    rw [Array.getElem?_setIfInBounds, if_neg (by omega)]
  refine ⟨?_, ?_⟩
  · refine h.turn b (by simp) hne (fun rc t e => by rw [hk] at e; cases e) (fun t n e => by rw [hk] at e; cases e) ?_ ?_ (fun s v x e => .inl e) (fun s v x _ _ e => by rw [hk] at e; cases e) rfl (fun c0 E0 fr0 e => absurd e (hnc c0 E0 fr0))
    · intro o' y e
      by_cases hq : o' = o
      · subst hq
        simp at e; subst e
        exact .inr ⟨hk, hx⟩
      · simp only [upd_ne _ _ hq] at e
        exact .inl e
    · intro o' y _ e hk'
      rw [hk] at hk'; cases hk'
      simp at e; subst e
      exact hx
  · refine Trans.turn b (by simp) hne (by simp only [Acc, hk]; rw [ho]; simp) ?_ (fun _ _ e => e) rfl rfl rfl rfl
    intro o' e
    by_cases hq : o' = o
    · subst hq; rw [ho]; simp
    · simp only [upd_ne _ _ hq] at e
      exact e

/-! ### Families -/

/-- A new row with a family of its own. -/
theorem MemOk.pushFam (h : MemOk M G w) (rc : List Value) (cs : Array Value) (E : TypeId) (hp : rc <+: cs.toList) (ho : Ones rc) :
    ∃ G', MemOk { M with fm := upd M.fm G.bound (some rc.length), bd := M.bd.map (· + 1), ty := upd M.ty G.bound (some E) } G' (w.alloc (.cells cs E)) ∧
      Trans M G w { M with fm := upd M.fm G.bound (some rc.length), bd := M.bd.map (· + 1), ty := upd M.ty G.bound (some E) } G' (w.alloc (.cells cs E)) ∧
      G'.kind w.heap.size = .row rc cs.size ∧ G'.fam G.bound = some (w.heap.size, rc.length) ∧ G.bound < G'.bound := by
  obtain ⟨h1, t1⟩ := h.push (.cells cs E) (.row rc cs.size) (G.bound + 1) (M.bd.map (· + 1)) h.bump (by omega)
    (fun rc' t e => by cases e; exact ⟨cs, E, (0, 0), heap_push_new w _, rfl, hp, by simp, ho⟩) (fun _ e => by cases e) (fun _ _ e => by cases e)
  have hfn : G.fam G.bound = none := by
    cases e : G.fam G.bound with
    | none => rfl
    | some p => have := h.fmB _ _ e; omega
  have hkn : (G.put w.heap.size (.row rc cs.size) (G.bound + 1)).kind w.heap.size = .row rc cs.size := put_kind_same
  refine ⟨{ G.put w.heap.size (.row rc cs.size) (G.bound + 1) with fam := upd G.fam G.bound (some (w.heap.size, rc.length)) }, ?_, ?_, hkn, by simp, by simp [Ghost.put]⟩
  · have hext : Ext (G.put w.heap.size (.row rc cs.size) (G.bound + 1)) { G.put w.heap.size (.row rc cs.size) (G.bound + 1) with fam := upd G.fam G.bound (some (w.heap.size, rc.length)) } → True := fun _ => trivial
    clear hext
    have hextG : Ext G { G.put w.heap.size (.row rc cs.size) (G.bound + 1) with fam := upd G.fam G.bound (some (w.heap.size, rc.length)) } :=
      { t1.ext with
        fam := fun t b m ht e => by
          have : t ≠ G.bound := by omega
          simp only [upd_ne _ _ this] at e
          exact ⟨b, m, e, .inl ⟨rfl, rfl⟩⟩ }
    have hheap : ∀ b, b < w.heap.size → (w.alloc (.cells cs E)).heap[b]? = w.heap[b]? := fun b hb => heap_push_lt w _ hb
    exact
      { ob := fun o x e => (h.ob o x e).mono hextG (fun b hb => hheap b (h.lt b (by rw [hb]; simp)))
        lc := fun s v x e => (h.lc s v x e).mono hextG (fun b hb => hheap b (h.lt b (by rw [hb]; simp)))
        fm := fun t n e => by
          by_cases hq : t = G.bound
          · subst hq
            simp at e; subst e
            exact ⟨w.heap.size, rc, cs.size, by simp, hkn, rfl⟩
          · simp only [upd_ne _ _ hq] at e
            obtain ⟨b, rc', total, g1, g2, g3⟩ := h1.fm t n e
            exact ⟨b, rc', total, by simp only [upd_ne _ _ hq]; exact g1, g2, g3⟩
        rows := h1.rows
        lt := h1.lt
        obB := h1.obB
        lcB := h1.lcB
        fmB := fun t p e => by
          by_cases hq : t = G.bound
          · subst hq; simp [Ghost.put]
          · simp only [upd_ne _ _ hq] at e
            exact h1.fmB t p e
        obI := h1.obI
        lcI := h1.lcI
        fmI := fun t t' b n n' e e' => by
          have hb : ∀ t n, G.fam t = some (w.heap.size, n) → False := fun t n e => by
            rcases h.fmK t _ _ e with ⟨rc', total, hk⟩ | ⟨total, hk⟩
            all_goals
              have := h.lt w.heap.size (by rw [hk]; simp)
              omega
          by_cases hq : t = G.bound <;> by_cases hq' : t' = G.bound
          · omega
          · subst hq
            simp at e; obtain ⟨rfl, rfl⟩ := e
            simp only [upd_ne _ _ hq'] at e'
            exact (hb _ _ e').elim
          · subst hq'
            simp at e'; obtain ⟨rfl, rfl⟩ := e'
            simp only [upd_ne _ _ hq] at e
            exact (hb _ _ e).elim
          · simp only [upd_ne _ _ hq] at e
            simp only [upd_ne _ _ hq'] at e'
            exact h.fmI t t' b n n' e e'
        fmK := fun t b n e => by
          by_cases hq : t = G.bound
          · subst hq
            simp at e; obtain ⟨rfl, rfl⟩ := e
            exact .inl ⟨rc, cs.size, hkn⟩
          · simp only [upd_ne _ _ hq] at e
            exact h1.fmK t b n e
        bd := h.bump
        ty := fun k e q => by
          by_cases hq : k = G.bound
          · subst hq
            simp at q; subst q
            refine ⟨by simp [Ghost.put], fun b hb => ?_, fun b n hb => ?_⟩
            · have := h1.obB b _ hb
              by_cases hbb : b = w.heap.size
              · subst hbb; rw [show _ = Kind.row rc cs.size from hkn] at hb; cases hb
              · have hb' : G.kind b = .obj G.bound := (put_kind_ne (G := G) (k := .row rc cs.size) (bound := G.bound + 1) hbb).symm.trans hb
                have := h.obB b _ hb'
                omega
            · simp at hb
              obtain ⟨rfl, _⟩ := hb
              exact ⟨cs, (0, 0), heap_push_new w _⟩
          · simp only [upd_ne _ _ hq] at q
            obtain ⟨g1, g2, g3⟩ := h1.ty k e q
            exact ⟨g1, g2, fun b n hb => by simp only [upd_ne _ _ hq] at hb; exact g3 b n hb⟩
        grB := h1.grB
        gr := fun t vs e => (h.gr t vs e).mono hextG (fun b n e => by
          have : t ≠ G.bound := fun q => by subst q; rw [hfn] at e; cases e
          simp only [upd_ne _ _ this]; exact e) (fun b n hb => hheap b (h.lt b (by rw [hb]; simp))) }
  · exact
      { t1 with
        ext := { t1.ext with
          fam := fun t b m ht e => by
            have : t ≠ G.bound := by omega
            simp only [upd_ne _ _ this] at e
            exact ⟨b, m, e, .inl ⟨rfl, rfl⟩⟩ }
        dfm := fun t e => by
          by_cases hq : t = G.bound
          · exact .inr (by omega)
          · simp only [upd_ne _ _ hq] at e
            exact .inl e
        famold := fun t b n hb e => by
          by_cases hq : t = G.bound
          · subst hq
            simp at e; omega
          · simp only [upd_ne _ _ hq] at e
            exact ⟨n, e⟩
        dty := fun k e => by
          by_cases hq : k = G.bound
          · exact .inr (by omega)
          · simp only [upd_ne _ _ hq] at e
            exact .inl e }

/-- A family's row is extended in place. -/
theorem MemOk.extend (h : MemOk M G w) {t n : Nat} (hm : M.fm t = some n) {b : Nat} {rc : List Value} {total : Nat} (hf : G.fam t = some (b, n)) (hk : G.kind b = .row rc total) (hn : rc.length = n)
    (us : List Value) (hu : Ones us) (hlt : n + us.length ≤ total) (hpos : 0 < us.length) :
    ∃ G', MemOk { M with fm := upd M.fm t (some (n + us.length)) } G' (setCells w b n us) ∧
      Trans M G w { M with fm := upd M.fm t (some (n + us.length)) } G' (setCells w b n us) ∧
      G'.kind b = .row (rc ++ us) total ∧ G'.fam t = some (b, n + us.length) ∧ G'.bound = G.bound := by
  obtain ⟨c, E, fr, hw, hsz, hpre, hfr, hon⟩ := h.rows b rc total hk
  obtain ⟨hs1, hs2, hs3, hs4⟩ := setCells_same us w b n
  obtain ⟨c', h1, h2, h3⟩ := setCells_heap us w b n c E fr hw (by omega)
  have hne : ∀ b', b' ≠ b → (setCells w b n us).heap[b']? = w.heap[b']? := fun b' hb => setCells_heap_ne us w b n b' hb
  have hext : Ext G { G with kind := upd G.kind b (.row (rc ++ us) total), fam := upd G.fam t (some (b, n + us.length)) } :=
    { obj := fun b' o e => by
        have : b' ≠ b := fun q => by subst q; rw [hk] at e; cases e
        simp only [upd_ne _ _ this]; exact e
      loc := fun b' s v e => by
        have : b' ≠ b := fun q => by subst q; rw [hk] at e; cases e
        simp only [upd_ne _ _ this]; exact e
      row := fun b' rc' t' e => by
        by_cases q : b' = b
        · subst q
          rw [hk] at e; cases e
          exact ⟨rc ++ us, by simp, List.prefix_append _ _⟩
        · exact ⟨rc', by simp only [upd_ne _ _ q]; exact e, List.prefix_refl _⟩
      grow := fun b' t' n' e => by
        have : b' ≠ b := fun q => by subst q; rw [hk] at e; cases e
        simp only [upd_ne _ _ this]; exact e
      bound := Nat.le_refl _
      fam := fun t' b' m _ e => by
        by_cases q : t' = t
        · subst q
          simp at e; obtain ⟨rfl, rfl⟩ := e
          exact ⟨b, n, hf, .inr (by omega)⟩
        · simp only [upd_ne _ _ q] at e
          exact ⟨b', m, e, .inl ⟨rfl, rfl⟩⟩ }
  have hkne : ∀ b' , b' ≠ b → (upd G.kind b (.row (rc ++ us) total)) b' = G.kind b' := fun b' q => upd_ne _ _ q
  refine ⟨{ G with kind := upd G.kind b (.row (rc ++ us) total), fam := upd G.fam t (some (b, n + us.length)) }, ?_, ?_, by simp, by simp, rfl⟩
  · exact
      { ob := fun o x e => (h.ob o x e).mono hext (fun b' hb => hne b' (fun q => by subst q; rw [hk] at hb; cases hb))
        lc := fun s v x e => (h.lc s v x e).mono hext (fun b' hb => hne b' (fun q => by subst q; rw [hk] at hb; cases hb))
        fm := fun t' n' e => by
          by_cases q : t' = t
          · subst q
            simp at e; subst e
            exact ⟨b, rc ++ us, total, by simp, by simp, by simp; omega⟩
          · simp only [upd_ne _ _ q] at e
            obtain ⟨b', rc', total', g1, g2, g3⟩ := h.fm t' n' e
            have qb : b' ≠ b := fun qq => by subst qq; exact q (h.fmI t' t b' n' n g1 hf)
            exact ⟨b', rc', total', by simp only [upd_ne _ _ q]; exact g1, by simp only [upd_ne _ _ qb]; exact g2, g3⟩
        rows := fun b' rc' t' e => by
          by_cases q : b' = b
          · subst q
            simp at e; obtain ⟨rfl, rfl⟩ := e
            refine ⟨c', E, fr, h1, by omega, ?_, by simp; omega, hon.append hu⟩
            rw [h2]
            obtain ⟨tl, htl⟩ := hpre
            refine ⟨c.toList.drop (n + us.length), ?_⟩
            unfold splice
            rw [show c.toList.take n = rc from by rw [← htl, ← hn]; simp]
          · simp only [upd_ne _ _ q] at e
            obtain ⟨c2, E2, fr2, g1, r⟩ := h.rows b' rc' t' e
            exact ⟨c2, E2, fr2, by rw [hne b' q]; exact g1, r⟩
        lt := fun b' e => by
          rw [hs1]
          by_cases q : b' = b
          · subst q
            exact h.lt b' (by rw [hk]; simp)
          · simp only [upd_ne _ _ q] at e
            exact h.lt b' e
        obB := fun b' o e => by
          by_cases q : b' = b
          · subst q; simp at e
          · simp only [upd_ne _ _ q] at e; exact h.obB b' o e
        lcB := fun b' s v e => by
          by_cases q : b' = b
          · subst q; simp at e
          · simp only [upd_ne _ _ q] at e; exact h.lcB b' s v e
        fmB := fun t' p e => by
          by_cases q : t' = t
          · subst q; exact h.fmB t' _ hf
          · simp only [upd_ne _ _ q] at e; exact h.fmB t' p e
        obI := fun b1 b2 o e e' => by
          by_cases q : b1 = b
          · subst q; simp at e
          · by_cases q' : b2 = b
            · subst q'; simp at e'
            · simp only [upd_ne _ _ q] at e; simp only [upd_ne _ _ q'] at e'; exact h.obI b1 b2 o e e'
        lcI := fun b1 b2 s v e e' => by
          by_cases q : b1 = b
          · subst q; simp at e
          · by_cases q' : b2 = b
            · subst q'; simp at e'
            · simp only [upd_ne _ _ q] at e; simp only [upd_ne _ _ q'] at e'; exact h.lcI b1 b2 s v e e'
        fmI := fun t1 t2 b' n1 n2 e e' => by
          by_cases q : t1 = t <;> by_cases q' : t2 = t
          · omega
          · subst q
            simp at e; obtain ⟨rfl, rfl⟩ := e
            simp only [upd_ne _ _ q'] at e'
            exact h.fmI _ _ _ _ _ hf e'
          · subst q'
            simp at e'; obtain ⟨rfl, rfl⟩ := e'
            simp only [upd_ne _ _ q] at e
            exact h.fmI _ _ _ _ _ e hf
          · simp only [upd_ne _ _ q] at e
            simp only [upd_ne _ _ q'] at e'
            exact h.fmI t1 t2 b' n1 n2 e e'
        fmK := fun t' b' n' e => by
          by_cases q : t' = t
          · subst q
            simp at e; obtain ⟨rfl, rfl⟩ := e
            exact .inl ⟨_, _, by simp; exact ⟨rfl, rfl⟩⟩
          · simp only [upd_ne _ _ q] at e
            have qb : b' ≠ b := fun qq => by subst qq; exact q (h.fmI t' t b' n' n e hf)
            rcases h.fmK t' b' n' e with ⟨rc', total', hk'⟩ | ⟨total', hk'⟩
            · exact .inl ⟨rc', total', by simp only [upd_ne _ _ qb]; exact hk'⟩
            · exact .inr ⟨total', by simp only [upd_ne _ _ qb]; exact hk'⟩
        bd := h.bd
        ty := fun k e q => by
          obtain ⟨g1, g2, g3⟩ := h.ty k e q
          have key : ∀ b' : Nat, (∃ c fr, w.heap[b']? = some (Obj.cells c e fr)) → ∃ c fr, (setCells w b n us).heap[b']? = some (Obj.cells c e fr) := by
            rintro b' ⟨c0, fr0, hc⟩
            by_cases hb : b' = b
            · subst hb; rw [hw] at hc; cases hc; exact ⟨c', _, h1⟩
            · exact ⟨c0, fr0, (hne b' hb).trans hc⟩
          refine ⟨g1, fun b' hb => ?_, fun b' n' hb => ?_⟩
          · by_cases q2 : b' = b
            · subst q2; simp at hb
            · simp only [upd_ne _ _ q2] at hb; exact key b' (g2 b' hb)
          · by_cases q2 : k = t
            · subst q2; simp at hb; obtain ⟨rfl, _⟩ := hb; exact key _ (g3 _ n hf)
            · simp only [upd_ne _ _ q2] at hb; exact key b' (g3 b' n' hb)
        grB := fun b' t' n' e => by
          by_cases q : b' = b
          · subst q; simp at e
          · simp only [upd_ne _ _ q] at e; exact h.grB b' t' n' e
        gr := fun t' vs e => (h.gr t' vs e).mono hext (fun b' n' e => by
          have : t' ≠ t := fun q => by
            subst q
            obtain ⟨b2, total2, _, _, _, f1, k1, _⟩ := h.gr t' vs ‹_›
            rw [hf] at f1; cases f1
            rw [hk] at k1; cases k1
          simp only [upd_ne _ _ this]; exact e) (fun b' n' hb => hne b' (fun q => by subst q; rw [hk] at hb; cases hb)) }
  · exact
      { ext := hext
        size := by omega
        dob := fun _ e => .inl e
        dlc := fun _ _ e => .inl e
        dgr := fun _ e => .inl e
        dfm := fun t' e => by
          by_cases q : t' = t
          · subst q; exact .inl (by rw [hm]; simp)
          · simp only [upd_ne _ _ q] at e; exact .inl e
        keep := fun b' _ hn' => by
          have q : b' ≠ b := fun q => by
            subst q
            exact hn' (by simp only [Acc, hk]; exact ⟨t, n, hf, by rw [hm]; simp⟩)
          exact ⟨hne b' q, by simp only [upd_ne _ _ q]⟩
        famold := fun t' b' n' _ e => by
          by_cases q : t' = t
          · subst q
            simp at e; obtain ⟨rfl, rfl⟩ := e
            exact ⟨n, hf⟩
          · simp only [upd_ne _ _ q] at e
            exact ⟨n', e⟩
        os := hs2, tape := hs3, output := hs4
        nob := fun b' o e => by
          by_cases q : b' = b
          · subst q; simp at e
          · simp only [upd_ne _ _ q] at e; exact .inl e
        dty := fun _ e => .inl e }

/-- A family goes on in a new row. -/
theorem MemOk.moveFam (h : MemOk M G w) {t n : Nat} (hm : M.fm t = some n) (rc : List Value) (cs : Array Value) (E : TypeId) (hp : rc <+: cs.toList) (ho : Ones rc) (hlt : n < rc.length) (hE : ∀ e, M.ty t = some e → E = e) :
    ∃ G', MemOk { M with fm := upd M.fm t (some rc.length) } G' (w.alloc (.cells cs E)) ∧
      Trans M G w { M with fm := upd M.fm t (some rc.length) } G' (w.alloc (.cells cs E)) ∧
      G'.kind w.heap.size = .row rc cs.size ∧ G'.fam t = some (w.heap.size, rc.length) ∧ G'.bound = G.bound := by
  obtain ⟨b0, rc0, total0, hf, hk0, hn0⟩ := h.fm t n hm
  have htB := h.fmB t _ hf
  obtain ⟨h1, t1⟩ := h.push (.cells cs E) (.row rc cs.size) G.bound M.bd h.bd (Nat.le_refl _)
    (fun rc' t e => by cases e; exact ⟨cs, E, (0, 0), heap_push_new w _, rfl, hp, by simp, ho⟩) (fun _ e => by cases e) (fun _ _ e => by cases e)
  have hkn : (G.put w.heap.size (.row rc cs.size) G.bound).kind w.heap.size = .row rc cs.size := put_kind_same
  have hextG : Ext G { G.put w.heap.size (.row rc cs.size) G.bound with fam := upd G.fam t (some (w.heap.size, rc.length)) } :=
    { t1.ext with
      fam := fun t' b m _ e => by
        by_cases q : t' = t
        · subst q
          simp at e; obtain ⟨rfl, rfl⟩ := e
          exact ⟨b0, n, hf, .inr hlt⟩
        · simp only [upd_ne _ _ q] at e
          exact ⟨b, m, e, .inl ⟨rfl, rfl⟩⟩ }
  have hheap : ∀ b, b < w.heap.size → (w.alloc (.cells cs E)).heap[b]? = w.heap[b]? := fun b hb => heap_push_lt w _ hb
  have hb : ∀ t n, G.fam t = some (w.heap.size, n) → False := fun t n e => by
    rcases h.fmK t _ _ e with ⟨rc', total, hk⟩ | ⟨total, hk⟩
    all_goals
      have := h.lt w.heap.size (by rw [hk]; simp)
      omega
  refine ⟨{ G.put w.heap.size (.row rc cs.size) G.bound with fam := upd G.fam t (some (w.heap.size, rc.length)) }, ?_, ?_, hkn, by simp, rfl⟩
  · exact
      { ob := fun o x e => (h.ob o x e).mono hextG (fun b hb => hheap b (h.lt b (by rw [hb]; simp)))
        lc := fun s v x e => (h.lc s v x e).mono hextG (fun b hb => hheap b (h.lt b (by rw [hb]; simp)))
        fm := fun t' n' e => by
          by_cases hq : t' = t
          · subst hq
            simp at e; subst e
            exact ⟨w.heap.size, rc, cs.size, by simp, hkn, rfl⟩
          · simp only [upd_ne _ _ hq] at e
            obtain ⟨b, rc', total, g1, g2, g3⟩ := h1.fm t' n' e
            exact ⟨b, rc', total, by simp only [upd_ne _ _ hq]; exact g1, g2, g3⟩
        rows := h1.rows
        lt := h1.lt
        obB := h1.obB
        lcB := h1.lcB
        fmB := fun t' p e => by
          by_cases hq : t' = t
          · subst hq; exact htB
          · simp only [upd_ne _ _ hq] at e
            exact h1.fmB t' p e
        obI := h1.obI
        lcI := h1.lcI
        fmI := fun t1 t2 b n1 n2 e e' => by
          by_cases hq : t1 = t <;> by_cases hq' : t2 = t
          · omega
          · subst hq
            simp at e; obtain ⟨rfl, rfl⟩ := e
            simp only [upd_ne _ _ hq'] at e'
            exact (hb _ _ e').elim
          · subst hq'
            simp at e'; obtain ⟨rfl, rfl⟩ := e'
            simp only [upd_ne _ _ hq] at e
            exact (hb _ _ e).elim
          · simp only [upd_ne _ _ hq] at e
            simp only [upd_ne _ _ hq'] at e'
            exact h.fmI t1 t2 b n1 n2 e e'
        fmK := fun t' b n' e => by
          by_cases hq : t' = t
          · subst hq
            simp at e; obtain ⟨rfl, rfl⟩ := e
            exact .inl ⟨rc, cs.size, hkn⟩
          · simp only [upd_ne _ _ hq] at e
            exact h1.fmK t' b n' e
        bd := h1.bd
        ty := fun k e q => by
          obtain ⟨g1, g2, g3⟩ := h1.ty k e q
          refine ⟨g1, g2, fun b n' hb2 => ?_⟩
          by_cases q2 : k = t
          · subst q2; simp at hb2; obtain ⟨rfl, _⟩ := hb2
            have := hE e q
            subst this
            exact ⟨cs, (0, 0), heap_push_new w _⟩
          · simp only [upd_ne _ _ q2] at hb2; exact g3 b n' hb2
        grB := h1.grB
        gr := fun t' vs e => (h.gr t' vs e).mono hextG (fun b' n' e' => by
          have : t' ≠ t := fun q => by
            subst q
            obtain ⟨b2, total2, _, _, _, f1, k1, _⟩ := h.gr t' vs e
            rw [hf] at f1; cases f1
            rw [hk0] at k1; cases k1
          simp only [upd_ne _ _ this]; exact e') (fun b' n' hb' => hheap b' (h.lt b' (by rw [hb']; simp))) }
  · exact
      { t1 with
        ext := hextG
        dfm := fun t' e => by
          by_cases hq : t' = t
          · subst hq; exact .inl (by rw [hm]; simp)
          · simp only [upd_ne _ _ hq] at e
            exact .inl e
        famold := fun t' b n' hb' e => by
          by_cases hq : t' = t
          · subst hq
            simp at e; omega
          · simp only [upd_ne _ _ hq] at e
            exact ⟨n', e⟩ }

end stores
end Go.Pv

/- Rows that grow and may be written over. -/
namespace Go.Pv
section
variable {M : VMem} {G : Ghost} {w : World}

/-- A growing row in a new block. -/
theorem MemOk.newGrow (h : MemOk M G w) {t bound : Nat} {nb : Option Nat} {vs : List VVal} {cs : Array Value} {E : TypeId} (hr : VRels G vs (cs.toList.take vs.length)) (ho : Ones (cs.toList.take vs.length)) (hl : vs.length ≤ cs.size)
    (ht : t < bound) (hbound : G.bound ≤ bound) (hnb : ∀ n, nb = some n → bound = n) (hfm : M.fm t = none)
    (hold : ∀ b m, G.fam t = some (b, m) → m < vs.length) (hnew : M.gr t ≠ none ∨ G.bound ≤ t)
    (hobj : ∀ b, G.kind b = .obj t → ∃ c fr, w.heap[b]? = some (.cells c E fr)) (hty' : M.ty t ≠ none ∨ G.bound ≤ t) :
    ∃ G', MemOk { M with gr := upd M.gr t (some vs), bd := nb, ty := upd M.ty t (some E) } G' (w.alloc (.cells cs E)) ∧
      Trans M G w { M with gr := upd M.gr t (some vs), bd := nb, ty := upd M.ty t (some E) } G' (w.alloc (.cells cs E)) ∧
      G'.kind w.heap.size = .grow t cs.size ∧ G'.fam t = some (w.heap.size, vs.length) ∧ G'.bound = bound := by
  obtain ⟨h1, t1⟩ := h.push (.cells cs E) (.grow t cs.size) bound nb hnb hbound
    (fun rc' t e => by cases e) (fun _ e => by cases e) (fun _ _ e => by cases e) (fun t' n e => by cases e; exact ht)
  have hkn : (G.put w.heap.size (.grow t cs.size) bound).kind w.heap.size = .grow t cs.size := put_kind_same
  have hextG : Ext G { G.put w.heap.size (.grow t cs.size) bound with fam := upd G.fam t (some (w.heap.size, vs.length)) } :=
    { t1.ext with
      fam := fun t' b m hb e => by
        by_cases q : t' = t
        · subst q
          simp at e; obtain ⟨rfl, rfl⟩ := e
          cases hf : G.fam t' with
          | none =>
            rcases hnew with hn | hn
            · obtain ⟨vs0, hv⟩ := Option.ne_none_iff_exists'.1 hn
              obtain ⟨b0, total, _, _, _, f1, _⟩ := h.gr t' vs0 hv
              rw [hf] at f1; cases f1
            · omega
          | some p =>
            obtain ⟨b0, m0⟩ := p
            exact ⟨b0, m0, rfl, .inr (hold b0 m0 hf)⟩
        · simp only [upd_ne _ _ q] at e
          exact ⟨b, m, e, .inl ⟨rfl, rfl⟩⟩ }
  have hheap : ∀ b, b < w.heap.size → (w.alloc (.cells cs E)).heap[b]? = w.heap[b]? := fun b hb => heap_push_lt w _ hb
  have hb : ∀ t n, G.fam t = some (w.heap.size, n) → False := fun t n e => by
    rcases h.fmK t _ _ e with ⟨rc', total, hk⟩ | ⟨total, hk⟩
    all_goals
      have := h.lt w.heap.size (by rw [hk]; simp)
      omega
  refine ⟨{ G.put w.heap.size (.grow t cs.size) bound with fam := upd G.fam t (some (w.heap.size, vs.length)) }, ?_, ?_, hkn, by simp, rfl⟩
  · exact
      { ob := fun o x e => (h.ob o x e).mono hextG (fun b hb => hheap b (h.lt b (by rw [hb]; simp)))
        lc := fun s v x e => (h.lc s v x e).mono hextG (fun b hb => hheap b (h.lt b (by rw [hb]; simp)))
        fm := fun t' n' e => by
          have hq : t' ≠ t := fun q => by subst q; rw [hfm] at e; cases e
          obtain ⟨b, rc', total, g1, g2, g3⟩ := h1.fm t' n' e
          exact ⟨b, rc', total, by simp only [upd_ne _ _ hq]; exact g1, g2, g3⟩
        rows := h1.rows
        lt := h1.lt
        obB := h1.obB
        lcB := h1.lcB
        fmB := fun t' p e => by
          by_cases hq : t' = t
          · subst hq; exact ht
          · simp only [upd_ne _ _ hq] at e
            exact h1.fmB t' p e
        obI := h1.obI
        lcI := h1.lcI
        fmI := fun t1 t2 b n1 n2 e e' => by
          by_cases hq : t1 = t <;> by_cases hq' : t2 = t
          · omega
          · subst hq
            simp at e; obtain ⟨rfl, rfl⟩ := e
            simp only [upd_ne _ _ hq'] at e'
            exact (hb _ _ e').elim
          · subst hq'
            simp at e'; obtain ⟨rfl, rfl⟩ := e'
            simp only [upd_ne _ _ hq] at e
            exact (hb _ _ e).elim
          · simp only [upd_ne _ _ hq] at e
            simp only [upd_ne _ _ hq'] at e'
            exact h.fmI t1 t2 b n1 n2 e e'
        fmK := fun t' b n' e => by
          by_cases hq : t' = t
          · subst hq
            simp at e; obtain ⟨rfl, rfl⟩ := e
            exact .inr ⟨cs.size, hkn⟩
          · simp only [upd_ne _ _ hq] at e
            exact h1.fmK t' b n' e
        bd := h1.bd
        ty := fun k e q => by
          by_cases q2 : k = t
          · subst q2
            simp at q; subst q
            refine ⟨ht, fun b hb2 => ?_, fun b n' hb2 => ?_⟩
            · have hbb : b ≠ w.heap.size := fun q => by subst q; rw [show _ = Kind.grow k cs.size from hkn] at hb2; cases hb2
              have hb' : G.kind b = .obj k := (put_kind_ne (G := G) (k := .grow k cs.size) (bound := bound) hbb).symm.trans hb2
              rw [hheap b (h.lt b (by rw [hb']; simp))]
              exact hobj b hb'
            · simp at hb2; obtain ⟨rfl, _⟩ := hb2
              exact ⟨cs, (0, 0), heap_push_new w _⟩
          · simp only [upd_ne _ _ q2] at q
            obtain ⟨g1, g2, g3⟩ := h1.ty k e q
            exact ⟨g1, g2, fun b n' hb2 => by simp only [upd_ne _ _ q2] at hb2; exact g3 b n' hb2⟩
        grB := h1.grB
        gr := fun t' ws e => by
          by_cases q : t' = t
          · subst q
            simp at e; subst e
            exact ⟨w.heap.size, cs.size, cs, E, (0, 0), by simp, hkn, heap_push_new w _, rfl, hl, VRels.mono hextG hr, ho, rfl⟩
          · simp only [upd_ne _ _ q] at e
            exact (h.gr t' ws e).mono hextG (fun b' n' e' => by simp only [upd_ne _ _ q]; exact e') (fun b' n' hb' => hheap b' (h.lt b' (by rw [hb']; simp))) }
  · exact
      { t1 with
        ext := hextG
        dgr := fun t' e => by
          by_cases hq : t' = t
          · subst hq; exact hnew
          · simp only [upd_ne _ _ hq] at e
            exact .inl e
        famold := fun t' b n' hb' e => by
          by_cases hq : t' = t
          · subst hq
            simp at e; omega
          · simp only [upd_ne _ _ hq] at e
            exact ⟨n', e⟩
        dty := fun k e => by
          by_cases hq : k = t
          · subst hq; exact hty'
          · simp only [upd_ne _ _ hq] at e
            exact .inl e }

/-- A growing row written in place, and maybe more of it. -/
theorem MemOk.writeGrow (h : MemOk M G w) {t : Nat} {vs vs' : List VVal} (hg : M.gr t = some vs) {off : Nat} {us : List Value} (_hu : Ones us) (hle : vs.length ≤ vs'.length)
    {b total : Nat} {cs : Array Value} {E : TypeId} (hf : G.fam t = some (b, vs.length)) (hk : G.kind b = .grow t total) (hw : w.heap[b]? = some (.cells cs E (0, 0))) (hsz : cs.size = total)
    (hfit : off + us.length ≤ total) (hlen : vs'.length ≤ total) (hr : VRels G vs' ((splice cs.toList off us).take vs'.length)) (ho : Ones ((splice cs.toList off us).take vs'.length)) :
    MemOk { M with gr := upd M.gr t (some vs') } { G with fam := upd G.fam t (some (b, vs'.length)) } (setCells w b off us) ∧ Trans M G w { M with gr := upd M.gr t (some vs') } { G with fam := upd G.fam t (some (b, vs'.length)) } (setCells w b off us) := by
  obtain ⟨hs1, hs2, hs3, hs4⟩ := setCells_same us w b off
  obtain ⟨c', h1, h2, h3⟩ := setCells_heap us w b off cs E (0, 0) hw (by omega)
  have hne : ∀ b', b' ≠ b → (setCells w b off us).heap[b']? = w.heap[b']? := fun b' hb => setCells_heap_ne us w b off b' hb
  have hext : Ext G { G with fam := upd G.fam t (some (b, vs'.length)) } :=
    { obj := fun _ _ e => e
      loc := fun _ _ _ e => e
      row := fun b' rc t e => ⟨rc, e, List.prefix_refl _⟩
      grow := fun _ _ _ e => e
      bound := Nat.le_refl _
      fam := fun t' b' m _ e => by
        by_cases q : t' = t
        · subst q
          simp at e; obtain ⟨rfl, rfl⟩ := e
          refine ⟨b, vs.length, hf, ?_⟩
          rcases Nat.lt_or_ge vs.length vs'.length with q | q
          · exact .inr q
          · exact .inl ⟨rfl, by omega⟩
        · simp only [upd_ne _ _ q] at e
          exact ⟨b', m, e, .inl ⟨rfl, rfl⟩⟩ }
  have hfm : M.fm t = none := by
    cases e : M.fm t with
    | none => rfl
    | some n =>
      obtain ⟨b2, rc2, total2, f1, k1, _⟩ := h.fm t n e
      rw [hf] at f1; cases f1
      rw [hk] at k1; cases k1
  refine ⟨?_, ?_⟩
  · exact
      { ob := fun o x e => (h.ob o x e).mono hext (fun b' hb => hne b' (fun q => by subst q; rw [hk] at hb; cases hb))
        lc := fun s v x e => (h.lc s v x e).mono hext (fun b' hb => hne b' (fun q => by subst q; rw [hk] at hb; cases hb))
        fm := fun t' n' e => by
          have hq : t' ≠ t := fun q => by subst q; rw [hfm] at e; cases e
          obtain ⟨b', rc', total', g1, g2, g3⟩ := h.fm t' n' e
          exact ⟨b', rc', total', by simp only [upd_ne _ _ hq]; exact g1, g2, g3⟩
        rows := fun b' rc' t' e => by
          have q : b' ≠ b := fun q => by subst q; rw [show G.kind b' = _ from e] at hk; cases hk
          obtain ⟨c2, E2, fr2, g1, r⟩ := h.rows b' rc' t' e
          exact ⟨c2, E2, fr2, by rw [hne b' q]; exact g1, r⟩
        lt := fun b' e => by rw [hs1]; exact h.lt b' e
        obB := h.obB
        lcB := h.lcB
        fmB := fun t' p e => by
          by_cases q : t' = t
          · subst q; exact h.fmB t' _ hf
          · simp only [upd_ne _ _ q] at e; exact h.fmB t' p e
        obI := h.obI
        lcI := h.lcI
        fmI := fun t1 t2 b' n1 n2 e e' => by
          by_cases q : t1 = t <;> by_cases q' : t2 = t
          · omega
          · subst q
            simp at e; obtain ⟨rfl, rfl⟩ := e
            simp only [upd_ne _ _ q'] at e'
            exact h.fmI _ _ _ _ _ hf e'
          · subst q'
            simp at e'; obtain ⟨rfl, rfl⟩ := e'
            simp only [upd_ne _ _ q] at e
            exact h.fmI _ _ _ _ _ e hf
          · simp only [upd_ne _ _ q] at e
            simp only [upd_ne _ _ q'] at e'
            exact h.fmI t1 t2 b' n1 n2 e e'
        fmK := fun t' b' n' e => by
          by_cases q : t' = t
          · subst q
            simp at e; obtain ⟨rfl, rfl⟩ := e
            exact .inr ⟨total, hk⟩
          · simp only [upd_ne _ _ q] at e
            exact h.fmK t' b' n' e
        bd := h.bd
        ty := fun k e q => by
          obtain ⟨g1, g2, g3⟩ := h.ty k e q
          have key : ∀ b' : Nat, (∃ c fr, w.heap[b']? = some (Obj.cells c e fr)) → ∃ c fr, (setCells w b off us).heap[b']? = some (Obj.cells c e fr) := by
            rintro b' ⟨c0, fr0, hc⟩
            by_cases hb : b' = b
            · subst hb; rw [hw] at hc; cases hc; exact ⟨c', _, h1⟩
            · exact ⟨c0, fr0, (hne b' hb).trans hc⟩
          refine ⟨g1, fun b' hb => key b' (g2 b' hb), fun b' n' hb => ?_⟩
          by_cases q2 : k = t
          · subst q2; simp at hb; obtain ⟨rfl, _⟩ := hb; exact key _ (g3 _ _ hf)
          · simp only [upd_ne _ _ q2] at hb; exact key b' (g3 b' n' hb)
        grB := h.grB
        gr := fun t' ws e => by
          by_cases q : t' = t
          · subst q
            simp at e; subst e
            exact ⟨b, total, c', E, (0, 0), by simp, hk, h1, by omega, hlen, by rw [h2]; exact VRels.mono hext hr, by rw [h2]; exact ho, rfl⟩
          · simp only [upd_ne _ _ q] at e
            refine (h.gr t' ws e).mono hext (fun b' n' e' => by simp only [upd_ne _ _ q]; exact e') (fun b' n' hb' => hne b' (fun qq => ?_))
            subst qq
            rw [hk] at hb'; cases hb'
            exact q rfl }
  · exact
      { ext := hext
        size := by omega
        dob := fun _ e => .inl e
        dlc := fun _ _ e => .inl e
        dfm := fun _ e => .inl e
        dgr := fun t' e => by
          by_cases q : t' = t
          · subst q; exact .inl (by rw [hg]; simp)
          · simp only [upd_ne _ _ q] at e; exact .inl e
        keep := fun b' _ hn' => by
          have q : b' ≠ b := fun q => by
            subst q
            exact hn' (by simp only [Acc, hk]; rw [hg]; simp)
          exact ⟨hne b' q, rfl⟩
        famold := fun t' b' n' _ e => by
          by_cases q : t' = t
          · subst q
            simp at e; obtain ⟨rfl, rfl⟩ := e
            exact ⟨_, hf⟩
          · simp only [upd_ne _ _ q] at e
            exact ⟨n', e⟩
        os := hs2, tape := hs3, output := hs4
        nob := fun _ _ e => .inl e
        dty := fun _ e => .inl e }

theorem upd_id {α : Type} (f : Nat → α) (k : Nat) (v : α) (h : f k = v) : upd f k v = f := by
  funext i
  unfold upd
  split
  · next e => subst e; exact h.symm
  · rfl

/-- A store into a growing row. -/
theorem MemOk.storeGrow (h : MemOk M G w) {t : Nat} {vs : List VVal} (hg : M.gr t = some vs) {off : Nat} {xs : List VVal} {us : List Value} (hl : off + xs.length ≤ vs.length) (hx : VRels G xs us) (hu : Ones us) :
    ∃ b total, G.fam t = some (b, vs.length) ∧ G.kind b = .grow t total ∧ (∃ c E, w.heap[b]? = some (.cells c E (0, 0)) ∧ vs.length ≤ c.size) ∧
      MemOk { M with gr := upd M.gr t (some (splice vs off xs)) } G (setCells w b off us) ∧
      Trans M G w { M with gr := upd M.gr t (some (splice vs off xs)) } G (setCells w b off us) := by
  obtain ⟨b, total, cs, E, fr, g1, g2, g3, g4, g5, g6, g7, rfl⟩ := h.gr t vs hg
  have hxl := hx.length
  have hsl : (splice vs off xs).length = vs.length := by unfold splice; simp; omega
  have hsp : (splice cs.toList off us).take vs.length = splice (cs.toList.take vs.length) off us := by
    unfold splice
    rw [List.append_assoc, List.append_assoc, List.take_append, List.take_append]
    simp only [List.length_take, Array.length_toList]
    have e1 : min off cs.size = off := by omega
    rw [e1, List.take_take, List.take_take, List.drop_take]
    congr 1
    · congr 1; omega
    · congr 1
      · rw [List.take_of_length_le (by omega)]
      · congr 1; omega
  obtain ⟨m1, t1⟩ := h.writeGrow hg (vs' := splice vs off xs) (off := off) (us := us) hu (by omega) g1 g2 g3 g4 (by omega) (by omega)
    (by rw [hsl, hsp]; exact g6.splice off hx) (by rw [hsl, hsp]; exact g7.splice off hu)
  have hG : ({ G with fam := upd G.fam t (some (b, (splice vs off xs).length)) } : Ghost) = G := by
    rw [hsl, upd_id G.fam t _ g1]
  rw [hG] at m1 t1
  exact ⟨b, total, g1, g2, ⟨cs, E, g3, by omega⟩, m1, t1⟩

end
end Go.Pv

/- Operations that turn no virtual memory: what they give. -/
namespace Go.Pv

structure FInfo where
  off : Nat
  ty : TypeId
  size : Nat
  agg : Bool
  named : Bool
  deriving DecidableEq

inductive VShape where
  | prim
  | int (k : IntKind)
  | bool
  | str
  | ptr (e : TypeId)
  | slice (e : TypeId)
  | array (n : Nat) (e : TypeId)
  | struct (fs : List FInfo)
  | map (k e : TypeId)
  | iface (plain : Bool)
  | func
  | uptr
  deriving DecidableEq

def descAgg : TypeDesc → Bool
  | .struct _ | .array _ _ => true
  | _ => false

def fieldInfo (P : Program) (f : Field) : Option FInfo :=
  match P.info? f.type, P.underlying f.type with
  | some i, some d => some { off := f.offset, ty := f.type, size := i.size, agg := descAgg d, named := f.name != "_" }
  | _, _ => none

def fieldInfos (P : Program) : List Field → Option (List FInfo)
  | [] => some []
  | f :: fs => match fieldInfo P f, fieldInfos P fs with
    | some i, some is => some (i :: is)
    | _, _ => none

def shapeOf (P : Program) : TypeDesc → VShape
  | .int k => .int k
  | .bool => .bool
  | .string => .str
  | .pointer e => .ptr e
  | .slice e => .slice e
  | .array n e => .array n e
  | .struct fs => match fieldInfos P fs.toList with | some l => .struct l | none => .prim
  | .map k e => .map k e
  | .interface ms => .iface ms.isEmpty
  | .func _ _ _ => .func
  | .unsafePointer => .uptr
  | _ => .prim

mutual
def ofConst : Value → VVal
  | .bool b => .bool b
  | .int k n => .int k n
  | .string s => .str s.data.toList
  | .pointer none => .nilp
  | .slice none 0 0 => .slice [] 0 .nil
  | .map none => .map none
  | .nilFunc => .nilFunc
  | .nilIface => .nilIface
  | .func (.func f) ⟨[]⟩ ⟨[]⟩ => .func (.func f) [] []
  | .agg ⟨cs⟩ => if cs.all (·.oneCell') then .agg (ofConsts cs) else .undef
  | .tuple ⟨cs⟩ => .tuple (ofConsts cs)
  | _ => .undef
def ofConsts : List Value → List VVal
  | [] => []
  | v :: vs => ofConst v :: ofConsts vs
end

mutual
theorem ofConst_rel (G : Ghost) : ∀ v : Value, VRel G (ofConst v) v
  | .bool b => by simp [ofConst, VRel]
  | .int k n => by simp [ofConst, VRel]
  | .string s => by simp [ofConst, VRel]
  | .pointer none => by simp [ofConst, VRel]
  | .pointer (some _) => by simp [ofConst, VRel]
  | .slice none 0 0 => by simp [ofConst, VRel, CapOk]
  | .slice none 0 (_ + 1) => by simp [ofConst, VRel]
  | .slice none (_ + 1) _ => by simp [ofConst, VRel]
  | .slice (some _) _ _ => by simp [ofConst, VRel]
  | .map none => by simp [ofConst, VRel]
  | .map (some _) => by simp [ofConst, VRel]
  | .nilFunc => by simp [ofConst, VRel]
  | .nilIface => by simp [ofConst, VRel]
  | .func (.func f) ⟨[]⟩ ⟨[]⟩ => by simp [ofConst, VRel, VRels]
  | .func (.func f) ⟨[]⟩ ⟨_ :: _⟩ => by simp [ofConst, VRel]
  | .func (.func f) ⟨_ :: _⟩ _ => by simp [ofConst, VRel]
  | .func (.method _) _ _ => by simp [ofConst, VRel]
  | .func (.methodOf _ _) _ _ => by simp [ofConst, VRel]
  | .func (.via _ _ _ _) _ _ => by simp [ofConst, VRel]
  | .func (.yield _) _ _ => by simp [ofConst, VRel]
  | .agg ⟨cs⟩ => by
    unfold ofConst
    split
    · next h =>
      simp only [VRel]
      exact ⟨⟨cs⟩, rfl, ofConsts_rel G cs, fun x hx => List.all_eq_true.1 h x hx⟩
    · simp [VRel]
  | .tuple ⟨cs⟩ => by
    unfold ofConst
    simp only [VRel]
    exact ⟨⟨cs⟩, rfl, ofConsts_rel G cs⟩
  | .float _ _ => by simp [ofConst, VRel]
  | .complex _ _ _ => by simp [ofConst, VRel]
  | .chan _ => by simp [ofConst, VRel]
  | .iface _ _ => by simp [ofConst, VRel]
theorem ofConsts_rel (G : Ghost) : ∀ vs : List Value, VRels G (ofConsts vs) vs
  | [] => by simp [ofConsts, VRels]
  | v :: vs => by
    simp only [ofConsts, VRels]
    exact ⟨v, vs, rfl, ofConst_rel G v, ofConsts_rel G vs⟩
end

structure TInfo where
  shape : VShape
  agg : Bool
  size : Nat
  bytes : Nat
  zero : Option VVal
  held : Bool
  lies : TypeId → Nat → Nat → Bool
  grow : Bool

/-- Of these types slices are kept in rows that may be written over. -/
def growNames : List String := ["proctor/api.Alpha"]

def layoutOf (P : Program) (t : TypeId) : Option TInfo :=
  match P.info? t, P.underlying t with
  | some i, some d => some { shape := shapeOf P d, agg := descAgg d, size := i.size, bytes := i.bytes, zero := i.zero.map ofConst, held := P.stoodInHeld t, lies := fun e count off => liesAt P P.depth e count off t 1, grow := match i.desc with | .named n _ => growNames.contains n | .bool => true | _ => false }
  | _, _ => none

structure VHeap where
  ob : Nat → Option VObj
  fm : Nat → Option Nat
  gr : Nat → Option (List VVal)
  bd : Option Nat
  ty : Nat → Option TypeId

structure VSt where
  n : Nat
  tm : Nat → VVal
  bx : Nat → Option (Nat × List VVal)
  h : VHeap

def lcOf (bx : Nat → Option (Nat × List VVal)) (s v : Nat) : Option (List VVal) :=
  match bx s with
  | some (v', cs) => if v' = v then some cs else none
  | none => none

def VSt.mem (st : VSt) : VMem := { ob := st.h.ob, fm := st.h.fm, lc := lcOf st.bx, gr := st.h.gr, bd := st.h.bd, ty := st.h.ty }
def VHeap.mem (h : VHeap) : VMem := { ob := h.ob, fm := h.fm, lc := fun _ _ => none, gr := h.gr, bd := h.bd, ty := h.ty }

def VSt.ev (st : VSt) : Operand → VVal
  | .tmp t => st.tm t
  | .const v => ofConst v
  | .global _ => .undef
  | .func f => .func (.func f) [] []

def VSt.evs (st : VSt) : List Operand → List VVal
  | [] => []
  | x :: xs => st.ev x :: st.evs xs

structure ActRel (st : VSt) (G : Ghost) (a : Act) : Prop where
  size : a.tmps.size = st.n
  tm : ∀ k, VRel G (st.tm k) (a.tmps.getD k undef)

theorem ActRel.ev {st : VSt} {G : Ghost} {a : Act} (h : ActRel st G a) (x : Operand) : VRel G (st.ev x) (a.eval x) := by
  cases x with
  | tmp t => exact h.tm t
  | const v => exact ofConst_rel G v
  | global g => simp [VSt.ev, VRel]
  | func f =>
    simp only [VSt.ev, VRel, Act.eval]
    exact ⟨#[], #[], rfl, by simp [VRels], by simp [VRels]⟩

theorem ActRel.evs {st : VSt} {G : Ghost} {a : Act} (h : ActRel st G a) : ∀ xs : List Operand, VRels G (st.evs xs) (xs.map a.eval)
  | [] => by simp [VSt.evs, VRels]
  | x :: xs => by
    simp only [VSt.evs, List.map_cons, VRels]
    exact ⟨_, _, rfl, h.ev x, h.evs xs⟩

theorem ActRel.mono {st : VSt} {G G' : Ghost} {a : Act} (he : Ext G G') (h : ActRel st G a) : ActRel st G' a :=
  ⟨h.size, fun k => VRel.mono he (h.tm k)⟩

/-- The state behind a value put into a slot. -/
def VSt.put (st : VSt) (d : Nat) (v : VVal) : VSt := { st with tm := upd st.tm d v }

theorem ActRel.put {st : VSt} {G : Ghost} {a : Act} (h : ActRel st G a) {d : Nat} (hd : d < st.n) {v : VVal} {v' : Value} (hv : VRel G v v') :
    ActRel (st.put d v) G (a.put (some d) v') := by
  refine ⟨by simp [Act.put, VSt.put, h.size], fun k => ?_⟩
  by_cases hk : k = d
  · subst hk
    simp only [VSt.put, upd_same, Act.put]
    rw [show (a.tmps.setIfInBounds k v').getD k undef = v' from by simp [Array.getD_eq_getD_getElem?, h.size, hd]]
    exact hv
  · simp only [VSt.put, upd_ne _ _ hk, Act.put]
    rw [show (a.tmps.setIfInBounds d v').getD k undef = a.tmps.getD k undef from by
      simp only [Array.getD_eq_getD_getElem?, Array.getElem?_setIfInBounds]
      rw [if_neg (by omega)]]
    exact h.tm k

/-! ### The pure operations -/

def vbinInt (op : BinOp) (k : IntKind) (a b : Int) : Option VVal :=
  match op with
  | .add => some (.int k (k.wrap (a + b)))
  | .sub => some (.int k (k.wrap (a - b)))
  | .mul => some (.int k (k.wrap (a * b)))
  | .quo => if b = 0 then none else some (.int k (k.wrap (a.tdiv b)))
  | .rem => if b = 0 then none else some (.int k (a.tmod b))
  | .and => some (.int k (bits .and k a b))
  | .or => some (.int k (bits .or k a b))
  | .xor => some (.int k (bits .xor k a b))
  | .andNot => some (.int k (bits .andNot k a b))
  | .eql => some (.bool (a == b))
  | .neq => some (.bool (a != b))
  | .lss => some (.bool (a < b))
  | .leq => some (.bool (a ≤ b))
  | .gtr => some (.bool (a > b))
  | .geq => some (.bool (a ≥ b))
  | .shl => if 0 ≤ b ∧ b ≤ k.bits then some (.int k (k.wrap (a * 2 ^ b.toNat))) else none
  | .shr => if 0 ≤ b ∧ b ≤ k.bits then some (.int k (a / 2 ^ b.toNat)) else none

def vbinStr (op : BinOp) (a b : List UInt8) : Option VVal :=
  match op with
  | .add => if a.length + b.length ≤ 9223372036854775807 then some (.str (a ++ b)) else none
  | .eql => some (.bool (a == b))
  | .neq => some (.bool (!(a == b)))
  | .lss => some (.bool (Op.bytesLess a b))
  | .leq => some (.bool (Op.bytesLess a b || a == b))
  | .gtr => some (.bool (!(Op.bytesLess a b || a == b)))
  | .geq => some (.bool (!Op.bytesLess a b))
  | _ => none

def isConstNil : Operand → Bool
  | .const .nilIface => true
  | _ => false

/-- '==' on what is neither an integer nor a string. -/
def veq (sh : VShape) (nilConst : Bool) (x y : VVal) : Option Bool :=
  match sh, x, y with
  | .bool, .bool a, .bool b => some (a == b)
  | .iface plain, .nilIface, .nilIface => if plain || nilConst then some true else none
  | .iface _, .nilIface, .iface _ _ => some false
  | .iface _, .iface _ _, .nilIface => some false
  | .ptr _, .nilp, .nilp => some true
  | .ptr _, .nilp, .ptr _ _ => some false
  | .ptr _, .nilp, .lptr _ _ _ => some false
  | .ptr _, .nilp, .iptr _ => some false
  | .ptr _, .ptr _ _, .nilp => some false
  | .ptr _, .lptr _ _ _, .nilp => some false
  | .ptr _, .iptr _, .nilp => some false
  | .func, .nilFunc, .nilFunc => some true
  | .func, .nilFunc, .func _ _ _ => some false
  | .func, .func _ _ _, .nilFunc => some false
  | .map _ _, .map none, .map b => some b.isNone
  | .map _ _, .map (some _), .map none => some false
  | _, _, _ => none

def primFits : VShape → VVal → Bool
  | .int k, .int k' _ => k == k'
  | .str, .str _ => true
  | .bool, .bool _ => true
  | _, _ => false

/-- Cells of a struct of plain fields, one behind the other. -/
def fieldsFit (L : TypeId → Option TInfo) : List FInfo → Nat → List VVal → Bool
  | [], _, [] => true
  | f :: fs, n, c :: cs => f.off == n && f.size == 1 && !f.agg && f.named && (match L f.ty with | some i => primFits i.shape c | none => false) && fieldsFit L fs (n + 1) cs
  | _, _, _ => false

/-- A key that can be told from others at a look. -/
def keyFits (L : TypeId → Option TInfo) (i : TInfo) : VVal → Bool
  | .agg cs => match i.shape with | .struct fs => !i.held && fieldsFit L fs 0 cs | _ => false
  | k => primFits i.shape k

/-- More of '=='. -/
def veq2 (L : TypeId → Option TInfo) (i : TInfo) (x y : VVal) : Option Bool :=
  match i.shape, x, y with
  | .ptr e, .ptr o a, .ptr o' a' => match L e with
    | some ei => if ei.size ≠ 0 ∧ o = o' then some (a == a') else none
    | none => none
  | .slice _, .slice _ _ .nil, .slice _ _ .nil => some true
  | .slice _, .slice (_ :: _) _ _, .slice _ _ .nil => some false
  | .slice _, .slice _ _ .nil, .slice (_ :: _) _ _ => some false
  | .slice _, .mslice _ _ _ _, .slice _ _ .nil => some false
  | .struct _, .agg xs, .agg ys => if keyFits L i (.agg xs) && keyFits L i (.agg ys) then sameKeys xs ys else none
  | _, _, _ => none

def vbin (L : TypeId → Option TInfo) (op : BinOp) (t : TypeId) (nilConst : Bool) (x y : VVal) : Option VVal :=
  match x, y with
  | .int k a, .int k' b => if k = k' then vbinInt op k a b else (match op with | .shl | .shr => vbinInt op k a b | _ => none)
  | .str a, .str b => vbinStr op a b
  | x, y =>
    match op, L t with
    | .eql, some i => ((veq i.shape nilConst x y).or (veq2 L i x y)).map .bool
    | .neq, some i => ((veq i.shape nilConst x y).or (veq2 L i x y)).map fun b => .bool (!b)
    | _, _ => none

def vun (op : UnOp) (x : VVal) : Option VVal :=
  match op, x with
  | .neg, .int k n => some (.int k (k.wrap (0 - n)))
  | .not, .bool b => some (.bool (!b))
  | _, _ => none

def vpart (agg : Bool) (size : Nat) (vs : List VVal) (off : Nat) : Option VVal :=
  if agg then (if off + size ≤ vs.length then some (.agg ((vs.drop off).take size)) else none) else vs[off]?

def VSt.cellsAt (st : VSt) : VVal → Option (List VVal × Nat)
  | .ptr o off => match st.h.ob o with | some (.cells vs) => some (vs, off) | _ => none
  | .lptr s v off => match lcOf st.bx s v with | some vs => some (vs, off) | none => none
  | .iptr vs => some (vs, 0)
  | .gptr t sz len off => match st.h.gr t with | some vs => if vs.length = len * sz then some (vs, off) else none | none => none
  | _ => none

def vshift (x : VVal) (n : Nat) : Option VVal :=
  match x with
  | .ptr o off => some (.ptr o (off + n))
  | .lptr s v off => some (.lptr s v (off + n))
  | .iptr cs => if n ≤ cs.length then some (.iptr (cs.drop n)) else none
  | .gptr t sz len off => some (.gptr t sz len (off + n))
  | _ => none

def vnil : VVal → Option VVal
  | .ptr o off => some (.ptr o off)
  | .lptr s v off => some (.lptr s v off)
  | .iptr cs => some (.iptr cs)
  | .gptr t sz len off => some (.gptr t sz len off)
  | .iface t v => some (.iface t v)
  | .func (.func f) a b => some (.func (.func f) a b)
  | _ => none

def vfieldAddr (L : TypeId → Option TInfo) (s : TypeId) (x : VVal) (f : Nat) : Option VVal :=
  match L s with
  | some i => match i.shape with
    | .struct fs => match fs[f]? with
      | some fi => if fi.size ≠ 0 then vshift x fi.off else none
      | none => none
    | _ => none
  | none => none

def vindexAddr (L : TypeId → Option TInfo) (t : TypeId) (x ix : VVal) : Option VVal :=
  match L t, ix with
  | some i, .int _ n => match i.shape, x with
    | .slice e, .slice cells len _ => match L e with
      | some ei => if 0 ≤ n ∧ n < (len : Int) ∧ cells.isEmpty = false then vshift (.iptr cells) (n.toNat * ei.size) else none
      | none => none
    | .slice e, .rslice t sz len => match L e with
      | some ei => if 0 ≤ n ∧ n < (len : Int) ∧ ei.size = sz then some (.gptr t sz len (n.toNat * ei.size)) else none
      | none => none
    | .slice e, .mslice o off len _ => match L e with
      | some ei => if 0 ≤ n ∧ n < (len : Int) then some (.ptr o (off + n.toNat * ei.size)) else none
      | none => none
    | .array len e, x => match L e with
      | some ei => if 0 ≤ n ∧ n < (len : Int) then vshift x (n.toNat * ei.size) else none
      | none => none
    | _, _ => none
  | _, _ => none

def vfield (L : TypeId → Option TInfo) (t : TypeId) (x : VVal) (f : Nat) : Option VVal :=
  match L t, x with
  | some i, .agg cs => match i.shape with
    | .struct fs => match fs[f]? with
      | some fi => vpart fi.agg fi.size cs fi.off
      | none => none
    | _ => none
  | _, _ => none

def vindex (L : TypeId → Option TInfo) (t : TypeId) (x ix : VVal) : Option VVal :=
  match L t, x, ix with
  | some i, .str s, .int _ n => if i.shape = .str ∧ 0 ≤ n then (s[n.toNat]?).map fun b => .int .u8 (b.toNat : Int) else none
  | some i, .agg cs, .int _ n => match i.shape with
    | .array len e => match L e with
      | some ei => if 0 ≤ n ∧ n < (len : Int) then vpart ei.agg ei.size cs (n.toNat * ei.size) else none
      | none => none
    | _ => none
  | _, _, _ => none

def vextract (x : VVal) (i : Nat) : Option VVal :=
  match x with
  | .tuple vs => vs[i]?
  | _ => none

def bytesOf : List VVal → Option (List UInt8)
  | [] => some []
  | .int .u8 n :: vs => match bytesOf vs with | some l => some (UInt8.ofNat n.toNat :: l) | none => none
  | _ => none

def byteCells (l : List UInt8) : List VVal := l.map fun b => .int .u8 (b.toNat : Int)

def vconvert (L : TypeId → Option TInfo) (ob : Nat → Option VObj) (ty : Nat → Option TypeId) (s d : TypeId) (x : VVal) : Option VVal :=
  match L s, L d, x with
  | some _, some di, .int _ n => match di.shape with | .int k => some (.int k (k.wrap n)) | _ => none
  | some _, some di, .str l => match di.shape with
    | .str => some (.str l)
    | _ => none
  | some si, some di, .slice cells len _ => match si.shape, di.shape with
    | .slice e, .str => match L e, bytesOf cells with
      | some ei, some l => if ei.shape = .int .u8 ∧ l.length = len then some (.str l) else none
      | _, _ => none
    | _, _ => none
  | some si, some di, .nilp => match si.shape, di.shape with
    | .ptr _, .uptr => some .nilp
    | .uptr, .ptr _ => some .nilp
    | _, _ => none
  | some si, some di, .ptr o off => match si.shape, di.shape with
    | .ptr e, .uptr => match L e, ob o with
      | some ei, some (.cells vs) => if ei.size ≠ 0 ∧ off < vs.length then some (.ptr o off) else none
      | _, _ => none
    | .uptr, .ptr u => match L u, ob o, ty o with
      | some ui, some (.cells vs), some e => match L e with
        | some ei => if ui.size ≠ 0 ∧ ui.lies e (vs.length / ei.size) off = true then some (.ptr o off) else none
        | none => none
      | _, _, _ => none
    | _, _ => none
  | _, _, _ => none

def vcells : VVal → Option (List VVal)
  | .agg cs => some cs
  | .undef => none
  | .tuple _ => none
  | v => some [v]

def splice' (xs : List VVal) (off : Nat) (ys : List VVal) : Option (List VVal) := if off + ys.length ≤ xs.length then some (splice xs off ys) else none

def vfill (place : Nat → Option (Nat × Nat)) (cells : List VVal) : List (Nat × VVal) → Option (List VVal)
  | [] => some cells
  | (i, v) :: rest => match place i, vcells v with
    | some (off, size), some cs => if cs.length = size then (match splice' cells off cs with | some cells' => vfill place cells' rest | none => none) else none
    | _, _ => none

def VSt.parts (st : VSt) : List (Nat × Operand) → List (Nat × VVal)
  | [] => []
  | (i, x) :: l => (i, st.ev x) :: st.parts l

def vbuild (L : TypeId → Option TInfo) (t : TypeId) (parts : List (Nat × VVal)) : Option VVal :=
  match L t with
  | some i => match i.zero, i.shape with
    | some (.agg zs), .struct fs => (vfill (fun k => (fs[k]?).map fun f => (f.off, f.size)) zs parts).map .agg
    | some (.agg zs), .array _ e => match L e with
      | some ei => (vfill (fun k => some (k * ei.size, ei.size)) zs parts).map .agg
      | none => none
    | _, _ => none
  | none => none

def repCells (zs : List VVal) (n : Nat) : List VVal := (List.range n).map fun i => zs.getD (i % zs.length) .undef

def vbuildSlice (L : TypeId → Option TInfo) (t : TypeId) (len : Nat) (parts : List (Nat × VVal)) : Option VVal :=
  match L t with
  | some i => match i.shape with
    | .slice e => match L e with
      | some ei => if len * ei.size ≤ 2 ^ 24 then
          match ei.zero.bind vcells with
          | some zs => if zs.length = ei.size then (vfill (fun k => some (k * ei.size, ei.size)) (repCells zs (len * ei.size)) parts).map fun cs => .slice cs len (.exact len) else none
          | none => none
        else none
      | none => none
    | _ => none
  | none => none

/-- A bound of a slice expression: none: it is left out. -/
def VSt.bound? (st : VSt) : Option Operand → Option (Option Int)
  | none => some none
  | some x => match st.ev x with | .int _ n => some (some n) | _ => none

def vsliceOp (L : TypeId → Option TInfo) (t : TypeId) (x : VVal) (lo hi mx : Option Int) : Option VVal :=
  match L t, x with
  | some i, .str s =>
    let l := lo.getD 0
    let h := hi.getD s.length
    if i.shape = .str ∧ mx = none ∧ 0 ≤ l ∧ l ≤ h ∧ h ≤ (s.length : Int) then some (.str ((s.drop l.toNat).take (h.toNat - l.toNat))) else none
  | some i, .slice cells len cap => match i.shape with
    | .slice e => match L e with
      | some ei =>
        let l := lo.getD 0
        let h := hi.getD len
        let cells' := (cells.drop (l.toNat * ei.size)).take ((h.toNat - l.toNat) * ei.size)
        if 0 ≤ l ∧ l ≤ h ∧ h ≤ (len : Int) then
          match mx with
          | none => some (.slice cells' (h.toNat - l.toNat) (match cap with | .any => .any | .nil => if l = 0 ∧ len = 0 then .nil else .any | .exact c => .exact (c - l.toNat) | .tok t sz => if l = 0 then .tok t sz else .any))
          | some m => if h ≤ m ∧ m ≤ (len : Int) ∧ hi.isSome then some (.slice cells' (h.toNat - l.toNat) (.exact (m.toNat - l.toNat))) else none
        else none
      | none => none
    | _ => none
  | _, _ => none

def vfind (k : VVal) : List VEnt → Option (Option VVal)
  | [] => some none
  | e :: es => match sameKey k e.key with
    | some true => some (some e.val)
    | some false => vfind k es
    | none => none

def vlookup (L : TypeId → Option TInfo) (ob : Nat → Option VObj) (t : TypeId) (m k : VVal) (ok : Bool) : Option VVal :=
  match L t with
  | some i => match i.shape with
    | .map kt et => match L kt, L et with
      | some ki, some ei =>
        if keyFits L ki k then
          let es := match m with | .map none => some [] | .map (some o) => (match ob o with | some (.map es _) => some es | _ => none) | _ => none
          match es with
          | some es => match vfind k es with
            | some (some v) => some (if ok then .tuple [v, .bool true] else v)
            | some none => ei.zero.map fun z => if ok then .tuple [z, .bool false] else z
            | none => none
          | none => none
        else none
      | _, _ => none
    | _ => none
  | none => none

def vassert (L : TypeId → Option TInfo) (x : VVal) (t : TypeId) (ok : Bool) : Option VVal :=
  match L t with
  | some i => match i.shape, x with
    | .iface _, _ => none
    | _, .iface d v => if d = t then some (if ok then .tuple [v, .bool true] else v) else if ok then i.zero.map fun z => .tuple [z, .bool false] else none
    | _, .nilIface => if ok then i.zero.map fun z => .tuple [z, .bool false] else none
    | _, _ => none
  | none => none

def vlen (L : TypeId → Option TInfo) (ob : Nat → Option VObj) (t : TypeId) (x : VVal) : Option VVal :=
  match L t with
  | some i => match i.shape, x with
    | .str, .str s => some (.int .i64 (s.length : Int))
    | .slice _, .slice _ len _ => some (.int .i64 (len : Int))
    | .slice _, .mslice _ _ len _ => some (.int .i64 (len : Int))
    | .slice _, .rslice _ _ len => some (.int .i64 (len : Int))
    | .map _ _, .map none => some (.int .i64 0)
    | .map _ _, .map (some o) => match ob o with | some (.map es _) => some (.int .i64 (es.length : Int)) | _ => none
    | _, _ => none
  | none => none

def vsliceData (x : VVal) : Option VVal :=
  match x with
  | .slice _ _ .nil => some .nilp
  | .slice (c :: cs) len (.tok t _) => if 0 < len then some (.fptr (c :: cs) t) else none
  | _ => none

def vunsafeString (L : TypeId → Option TInfo) (fm : Nat → Option Nat) (ty : Nat → Option TypeId) (pt : TypeId) (x n : VVal) : Option VVal :=
  match x, n with
  | .nilp, .int _ m => if m = 0 then some (.str []) else none
  | .fptr cells t, .int _ m => match L pt with
    | some pi => match pi.shape with
      | .ptr e => match L e, bytesOf cells with
        | some ei, some l => if m = (cells.length : Int) ∧ cells.length ≤ 9223372036854775807 ∧ 0 < cells.length ∧ ei.shape = .int .u8 ∧ ei.size = 1 ∧ fm t = some cells.length ∧ ty t = some e then some (.str l) else none
        | _, _ => none
      | _ => none
    | none => none
  | _, _ => none

def vmax (isMax : Bool) : List VVal → Option VVal
  | [.int k x, .int k' y] => if k = k' then some (.int k (if isMax then (if y > x then y else x) else (if y < x then y else x))) else none
  | _ => none

def vcap (L : TypeId → Option TInfo) (t : TypeId) (x : VVal) : Option VVal :=
  match L t with
  | some i => match i.shape, x with
    | .slice _, .slice _ _ (.exact c) => some (.int .i64 (c : Int))
    | .slice _, .slice _ 0 .nil => some (.int .i64 0)
    | .slice _, .mslice _ _ _ c => some (.int .i64 (c : Int))
    | _, _ => none
  | none => none

/-- The step of an iterator over a map that is empty. -/
def vnext (ob : Nat → Option VObj) (x : VVal) (isStr : Bool) : Option VVal :=
  match x, isStr with
  | .ptr o 0, false => match ob o with
    | some (.iter none _) => some (.tuple [.bool false])
    | some (.iter (some m) _) => match ob m with
      | some (.map [] _) => some (.tuple [.bool false])
      | _ => none
    | _ => none
  | _, _ => none

/-- What an operation gives that turns no virtual memory. -/
def VSt.light (st : VSt) (L : TypeId → Option TInfo) (o : Op) : Option VVal :=
  match o with
  | .move x | .assign x => some (st.ev x)
  | .pick c a b => match st.ev c with | .bool t => some (if t then st.ev a else st.ev b) | _ => none
  | .load t a => match L t, st.cellsAt (st.ev a) with | some i, some (vs, off) => vpart i.agg i.size vs off | _, _ => none
  | .nilCheck x => vnil (st.ev x)
  | .fieldAddr s x f => vfieldAddr L s (st.ev x) f
  | .indexAddr t x ix => vindexAddr L t (st.ev x) (st.ev ix)
  | .field t x f => vfield L t (st.ev x) f
  | .index t x ix => vindex L t (st.ev x) (st.ev ix)
  | .binOp op t x y _ => vbin L op t (isConstNil x || isConstNil y) (st.ev x) (st.ev y)
  | .unOp op _ x => vun op (st.ev x)
  | .convert s d x => vconvert L st.h.ob st.h.ty s d (st.ev x)
  | .makeInterface t x => match L t with | some i => (match i.shape with | .iface _ => none | _ => some (.iface t (st.ev x))) | none => none
  | .makeFunc fn first captured => some (.func fn (st.evs first.toList) (st.evs captured.toList))
  | .extract x i => vextract (st.ev x) i
  | .build t parts => vbuild L t (st.parts parts.toList)
  | .buildSlice t len parts => vbuildSlice L t len (st.parts parts.toList)
  | .slice t x lo hi mx => match st.bound? lo, st.bound? hi, st.bound? mx with | some l, some h, some m => vsliceOp L t (st.ev x) l h m | _, _, _ => none
  | .lookup t m k ok => vlookup L st.h.ob t (st.ev m) (st.ev k) ok
  | .typeAssert x _ t ok => vassert L (st.ev x) t ok
  | .call { callee := .builtin .len, args, argTypes } => match args.toList, argTypes.toList with | [x], [t] => vlen L st.h.ob t (st.ev x) | _, _ => none
  | .call { callee := .builtin .cap, args, argTypes } => match args.toList, argTypes.toList with | [x], [t] => vcap L t (st.ev x) | _, _ => none
  | .call { callee := .builtin .unsafeSliceData, args, .. } => match args.toList with | [x] => vsliceData (st.ev x) | _ => none
  | .call { callee := .builtin .unsafeString, args, argTypes } => match args.toList, argTypes.toList with | [x, n], t :: _ => vunsafeString L st.h.fm st.h.ty t (st.ev x) (st.ev n) | _, _ => none
  | .call { callee := .builtin .max, args, .. } => vmax true (st.evs args.toList)
  | .call { callee := .builtin .min, args, .. } => vmax false (st.evs args.toList)
  | .next x s => vnext st.h.ob (st.ev x) s
  | _ => none

end Go.Pv

/- The pure operations, sound: part 1. -/
namespace Go.Pv
variable {P : Program}

/-- A computation that leaves the world alone and gives what stands for v. -/
def Gives (P : Program) (G : Ghost) (w : World) (s : Sem Value) (v : VVal) : Prop := ∃ v', s.run P w = .ok v' w ∧ VRel G v v'

theorem Gives.int {G : Ghost} {w : World} {s : Sem Value} {k : IntKind} {n : Int} (h : s.run P w = .ok (.int k n) w) : Gives P G w s (.int k n) := ⟨_, h, by simp only [VRel]⟩
theorem Gives.bool {G : Ghost} {w : World} {s : Sem Value} {b : Bool} (h : s.run P w = .ok (.bool b) w) : Gives P G w s (.bool b) := ⟨_, h, by simp only [VRel]⟩
theorem Gives.str {G : Ghost} {w : World} {s : Sem Value} {b : List UInt8} (h : s.run P w = .ok (.string ⟨b.toArray⟩) w) : Gives P G w s (.str b) := ⟨_, h, by simp only [VRel]⟩

theorem layout_info {t : TypeId} {i : TInfo} (h : layoutOf P t = some i) : ∃ inf d, P.info? t = some inf ∧ P.underlying t = some d ∧ i.shape = shapeOf P d ∧ i.agg = descAgg d ∧ i.size = inf.size ∧ i.bytes = inf.bytes ∧ i.zero = inf.zero.map ofConst := by
  unfold layoutOf at h
  split at h
  · next inf d h1 h2 =>
    simp at h; subst h
    exact ⟨inf, d, h1, h2, rfl, rfl, rfl, rfl, rfl⟩
  · cases h

theorem layout_more {t : TypeId} {i : TInfo} (h : layoutOf P t = some i) : i.held = P.stoodInHeld t ∧ i.lies = fun e count off => liesAt P P.depth e count off t 1 := by
  unfold layoutOf at h
  split at h
  · simp at h; subst h
    exact ⟨rfl, rfl⟩
  · cases h

theorem run_typeInfo' {t : TypeId} {inf : TypeInfo} (h : P.info? t = some inf) (w : World) : (typeInfo t).run P w = .ok inf w := by
  simp [typeInfo, h]

theorem run_sizeOf' {t : TypeId} {inf : TypeInfo} (h : P.info? t = some inf) (w : World) : (sizeOf t).run P w = .ok inf.size w := by
  simp [sizeOf, run_typeInfo' h]

theorem run_isAgg {t : TypeId} {d : TypeDesc} (h : P.underlying t = some d) (w : World) : (isAgg t).run P w = .ok (descAgg d) w := by
  simp only [isAgg, Sem.run_bind, run_underlying h, Result.andThen_ok]
  cases d <;> rfl

theorem addr_add (b o n : Nat) : (⟨b, o, none⟩ : Addr).add n = ⟨b, o + n, none⟩ := by
  unfold Addr.add
  split
  · next e => subst e; rfl
  · rfl

/-! ### Loads -/
section loads
variable {st : VSt} {G : Ghost} {w : World}

theorem cellsAt_rel (hm : MemOk st.mem G w) {x : VVal} {v : Value} (hx : VRel G x v) {vs : List VVal} {off : Nat} (h : st.cellsAt x = some (vs, off)) (hoff : off ≤ vs.length) :
    ∃ b ro us, v = .pointer (some ⟨b, ro, none⟩) ∧ VRels G (vs.drop off) us ∧ Ones us ∧ ∀ j u, us[j]? = some u → w.cell? ⟨b, ro + j, none⟩ = some u := by
  unfold VSt.cellsAt at h
  split at h
  · next o off' =>
    split at h
    · next vs' ho =>
      simp at h; obtain ⟨rfl, rfl⟩ := h
      obtain ⟨b, cs, E, hk, hw, hr, hon⟩ := hm.ob o _ ho
      simp only [VRel] at hx
      obtain ⟨b', hk', rfl⟩ := hx
      have := hm.obI b b' o hk hk'; subst this
      refine ⟨b, _, cs.toList.drop off', rfl, hr.drop _, hon.drop _, fun j u e => ?_⟩
      simp only [World.cell?, hw]
      simpa using e
    · cases h
  · next s ver off' =>
    split at h
    · next vs' ho =>
      simp at h; obtain ⟨rfl, rfl⟩ := h
      obtain ⟨b, cs, E, hk, hw, hr, hon⟩ := hm.lc s ver _ ho
      simp only [VRel] at hx
      obtain ⟨b', hk', rfl⟩ := hx
      have := hm.lcI b b' s ver hk hk'; subst this
      refine ⟨b, _, cs.toList.drop off', rfl, hr.drop _, hon.drop _, fun j u e => ?_⟩
      simp only [World.cell?, hw]
      simpa using e
    · cases h
  · next vs' =>
    simp at h; obtain ⟨rfl, rfl⟩ := h
    simp only [VRel] at hx
    obtain ⟨b, ro, rc, total, hk, rfl, hl, hr⟩ := hx
    obtain ⟨c, E, fr, hw, hsz, hpre, hfr, hon⟩ := hm.rows b rc total hk
    refine ⟨b, ro, (rc.drop ro).take vs'.length, rfl, hr, (hon.drop _).take _, fun j u e => ?_⟩
    simp only [World.cell?, hw]
    rw [List.getElem?_take] at e
    split at e
    · rw [List.getElem?_drop] at e
      obtain ⟨tl, htl⟩ := hpre
      have hlt : ro + j < rc.length := by
        rcases Nat.lt_or_ge (ro + j) rc.length with q | q
        · exact q
        · rw [List.getElem?_eq_none q] at e; cases e
      have : c.toList[ro + j]? = some u := by rw [← htl, List.getElem?_append_left hlt, e]
      simpa using this
    · cases e
  · next t sz len off' =>
    split at h
    · next vs' hg =>
      split at h
      · next hlen =>
        simp at h; obtain ⟨rfl, rfl⟩ := h
        obtain ⟨b, total, cs, E, fr, g1, g2, g3, g4, g5, g6, g7, g8⟩ := hm.gr t _ hg
        simp only [VRel] at hx
        obtain ⟨b0, rfl, _, hgo⟩ := hx
        obtain ⟨_, hgo⟩ := hgo b _ g1
        obtain ⟨total', hk', rfl⟩ := hgo hlen.symm
        refine ⟨b, off', (cs.toList.take vs'.length).drop off', rfl, g6.drop _, g7.drop _, fun j u e => ?_⟩
        simp only [World.cell?, g3]
        rw [List.getElem?_drop, List.getElem?_take] at e
        split at e
        · simpa using e
        · cases e
      · cases h
    · cases h
  · cases h

theorem vload_sound (hm : MemOk st.mem G w) {t : TypeId} {i : TInfo} (hi : layoutOf P t = some i) {x : VVal} {v : Value} (hx : VRel G x v) {vs : List VVal} {off : Nat} (h : st.cellsAt x = some (vs, off)) {r : VVal} (hr : vpart i.agg i.size vs off = some r) :
    Gives P G w (Instr.loadAt t v) r := by
  obtain ⟨inf, d, h1, h2, _, h3, h4, _, _⟩ := layout_info hi
  unfold vpart at hr
  have key : off ≤ vs.length := by
    split at hr
    · split at hr
      · omega
      · cases hr
    · rcases Nat.lt_or_ge off vs.length with q | q
      · omega
      · rw [List.getElem?_eq_none q] at hr; cases hr
  obtain ⟨b, ro, us, rfl, hrs, hon, hc⟩ := cellsAt_rel hm hx h key
  unfold Gives
  simp only [Instr.loadAt, Instr.sureAddr, loadVar, Sem.run_bind, Sem.run_pure, Result.andThen_ok, run_isAgg h2, ← h3]
  cases ha : i.agg with
  | true =>
    simp only [ha, if_true] at hr ⊢
    split at hr
    · next hl =>
      simp at hr; subst hr
      have hlen := hrs.length
      simp only [List.length_drop] at hlen
      have hload : (loadCells ⟨b, ro, none⟩ inf.size).run P w = .ok (us.take inf.size).toArray w := by
        have := run_loadCells_list (P := P) w ⟨b, ro, none⟩ (us.take inf.size) (fun j u e => by
          rw [addr_add]
          refine hc j u ?_
          rw [List.getElem?_take] at e
          split at e
          · exact e
          · cases e)
        rwa [List.length_take, Nat.min_eq_left (by omega)] at this
      simp only [Sem.run_bind, run_sizeOf' h1, hload, Result.andThen_ok, Sem.run_pure]
      refine ⟨_, rfl, ?_⟩
      simp only [VRel]
      exact ⟨_, rfl, by simp only [h4]; exact hrs.take _, by simp; exact hon.take _⟩
    · cases hr
  | false =>
    simp only [ha, Bool.false_eq_true, if_false] at hr ⊢
    have hd : (vs.drop off)[0]? = some r := by simpa using hr
    obtain ⟨u, hu, hru⟩ := hrs.get hd
    refine ⟨u, ?_, hru⟩
    have := hc 0 u hu
    simp only [Nat.add_zero] at this
    simp [this]

theorem vshift_rel {x r : VVal} {v : Value} {n : Nat} (hx : VRel G x v) (h : vshift x n = some r) : ∃ b o, v = .pointer (some ⟨b, o, none⟩) ∧ VRel G r (.pointer (some ⟨b, o + n, none⟩)) := by
  unfold vshift at h
  split at h
  · simp at h; subst h
    simp only [VRel] at hx ⊢
    obtain ⟨b, hk, rfl⟩ := hx
    exact ⟨b, _, rfl, b, hk, rfl⟩
  · simp at h; subst h
    simp only [VRel] at hx ⊢
    obtain ⟨b, hk, rfl⟩ := hx
    exact ⟨b, _, rfl, b, hk, rfl⟩
  · next cs =>
    split at h
    · next hl =>
      simp at h; subst h
      simp only [VRel] at hx ⊢
      obtain ⟨b, off, rc, total, hk, rfl, hl2, hr⟩ := hx
      refine ⟨b, off, rfl, b, off + n, rc, total, hk, rfl, by simp; omega, ?_⟩
      have := hr.drop n
      rw [List.drop_take, List.drop_drop] at this
      simpa using this
    · cases h
  · simp at h; subst h
    simp only [VRel] at hx ⊢
    obtain ⟨b, rfl, hg⟩ := hx
    exact ⟨b, _, rfl, b, rfl, hg⟩
  · cases h

end loads

/-! ### Arithmetic, comparison -/

theorem vbinInt_sound {G : Ghost} {w : World} {op : BinOp} {k : IntKind} {a b : Int} {t : TypeId} {r : VVal} {x y : Operand} (h : vbinInt op k a b = some r) :
    Gives P G w (do eqGuard op t x y (.int k a) (.int k b); binOp op t (.int k a) (.int k b)) r := by
  rw [eqGuard_at_int]
  unfold vbinInt at h
  cases op <;> simp only at h
  case add => simp at h; subst h; exact .int (by simp [binOp, Op.intArith])
  case sub => simp at h; subst h; exact .int (by simp [binOp, Op.intArith])
  case mul => simp at h; subst h; exact .int (by simp [binOp, Op.intArith])
  case quo =>
    split at h
    · cases h
    · next hb => simp at h; subst h; exact .int (by simp [binOp, Op.intDiv, hb])
  case rem =>
    split at h
    · cases h
    · next hb => simp at h; subst h; exact .int (by simp [binOp, Op.intDiv, hb])
  case and => simp at h; subst h; exact .int (by simp [binOp, intBits_and])
  case or => simp at h; subst h; exact .int (by simp [binOp, intBits_or])
  case xor => simp at h; subst h; exact .int (by simp [binOp, intBits_xor])
  case andNot => simp at h; subst h; exact .int (by simp [binOp, intBits_andNot])
  case shl =>
    split at h
    · next hb => simp at h; subst h; exact .int (by simp [binOp, shift_shl k k a b hb.1 hb.2])
    · cases h
  case shr =>
    split at h
    · next hb => simp at h; subst h; exact .int (by simp [binOp, shift_shr k k a b hb.1 hb.2])
    · cases h
  case eql => simp at h; subst h; exact .bool (by simp [binOp, Op.intCmp])
  case neq => simp at h; subst h; exact .bool (by simp [binOp, Op.intCmp])
  case lss => simp at h; subst h; exact .bool (by simp [binOp, Op.intCmp])
  case leq => simp at h; subst h; exact .bool (by simp [binOp, Op.intCmp])
  case gtr => simp at h; subst h; exact .bool (by simp [binOp, Op.intCmp])
  case geq => simp at h; subst h; exact .bool (by simp [binOp, Op.intCmp])

theorem vbinShift_sound {G : Ghost} {w : World} {op : BinOp} {k k' : IntKind} {a b : Int} {t : TypeId} {r : VVal} {x y : Operand} (hop : op = .shl ∨ op = .shr) (h : vbinInt op k a b = some r) :
    Gives P G w (do eqGuard op t x y (.int k a) (.int k' b); binOp op t (.int k a) (.int k' b)) r := by
  rw [eqGuard_at_int]
  unfold vbinInt at h
  rcases hop with rfl | rfl
  · simp only at h
    split at h
    · next hb => simp at h; subst h; exact .int (by simp [binOp, shift_shl k k' a b hb.1 hb.2])
    · cases h
  · simp only at h
    split at h
    · next hb => simp at h; subst h; exact .int (by simp [binOp, shift_shr k k' a b hb.1 hb.2])
    · cases h

theorem vbinStr_sound {G : Ghost} {w : World} {op : BinOp} {a b : List UInt8} {t : TypeId} {r : VVal} {x y : Operand} (h : vbinStr op a b = some r) :
    Gives P G w (do eqGuard op t x y (.string ⟨a.toArray⟩) (.string ⟨b.toArray⟩); binOp op t (.string ⟨a.toArray⟩) (.string ⟨b.toArray⟩)) r := by
  rw [eqGuard_at_string]
  unfold vbinStr at h
  split at h
  · split at h
    · next hl =>
      simp at h; subst h
      refine .str ?_
      simp only [binOp, Op.stringOp, pure_bind, IntKind.max_i64]
      rw [if_neg (by simp [ByteArray.size]; omega)]
      simp [ByteArray.mk_append_mk]
    · cases h
  all_goals first
    | (simp at h; subst h; exact .bool (by simp [binOp, Op.stringOp]))
    | cases h

theorem run_underlying' {t : TypeId} {d : TypeDesc} (h : P.underlying t = some d) (w : World) : (underlying t).run P w = .ok d w := run_underlying h w

theorem shape_bool {d : TypeDesc} (h : shapeOf P d = .bool) : d = .bool := by cases d <;> first | rfl | (simp [shapeOf] at h; done) | (simp only [shapeOf] at h; split at h <;> cases h)
theorem shape_iface {d : TypeDesc} {p : Bool} (h : shapeOf P d = .iface p) : ∃ ms, d = .interface ms ∧ ms.isEmpty = p := by
  cases d <;> first | (simp [shapeOf] at h; done) | (simp only [shapeOf] at h; split at h <;> cases h; done) | skip
  next ms => exact ⟨ms, rfl, by simpa [shapeOf] using h⟩
theorem shape_ptr {d : TypeDesc} {e : TypeId} (h : shapeOf P d = .ptr e) : d = .pointer e := by
  cases d <;> first | (simp [shapeOf] at h; done) | (simp only [shapeOf] at h; split at h <;> cases h; done) | skip
  next ms => simp [shapeOf] at h; rw [h]
theorem shape_func {d : TypeDesc} (h : shapeOf P d = .func) : ∃ a b c, d = .func a b c := by
  cases d <;> first | (simp [shapeOf] at h; done) | (simp only [shapeOf] at h; split at h <;> cases h; done) | skip
  next a b c => exact ⟨a, b, c, rfl⟩
theorem shape_map {d : TypeDesc} {k e : TypeId} (h : shapeOf P d = .map k e) : d = .map k e := by
  cases d <;> first | (simp [shapeOf] at h; done) | (simp only [shapeOf] at h; split at h <;> cases h; done) | skip
  next a b => simp [shapeOf] at h; rw [h.1, h.2]
theorem shape_slice {d : TypeDesc} {e : TypeId} (h : shapeOf P d = .slice e) : d = .slice e := by
  cases d <;> first | (simp [shapeOf] at h; done) | (simp only [shapeOf] at h; split at h <;> cases h; done) | skip
  next ms => simp [shapeOf] at h; rw [h]
theorem shape_array {d : TypeDesc} {n : Nat} {e : TypeId} (h : shapeOf P d = .array n e) : d = .array n e := by
  cases d <;> first | (simp [shapeOf] at h; done) | (simp only [shapeOf] at h; split at h <;> cases h; done) | skip
  next a b => simp [shapeOf] at h; rw [h.1, h.2]
theorem shape_uptr {d : TypeDesc} (h : shapeOf P d = .uptr) : d = .unsafePointer := by cases d <;> first | rfl | (simp [shapeOf] at h; done) | (simp only [shapeOf] at h; split at h <;> cases h)
theorem shape_str {d : TypeDesc} (h : shapeOf P d = .str) : d = .string := by cases d <;> first | rfl | (simp [shapeOf] at h; done) | (simp only [shapeOf] at h; split at h <;> cases h)
theorem shape_int {d : TypeDesc} {k : IntKind} (h : shapeOf P d = .int k) : d = .int k := by
  cases d <;> first | (simp [shapeOf] at h; done) | (simp only [shapeOf] at h; split at h <;> cases h; done) | skip
  next k' => simp [shapeOf] at h; rw [h]
theorem shape_struct {d : TypeDesc} {fs : List FInfo} (h : shapeOf P d = .struct fs) : ∃ f : Array Field, d = .struct f ∧ fieldInfos P f.toList = some fs := by
  cases d <;> first | (simp [shapeOf] at h; done) | skip
  next f =>
    refine ⟨f, rfl, ?_⟩
    simp only [shapeOf] at h
    split at h
    · next l hl => simp at h; rw [hl, h]
    · cases h

theorem veq_sound {G : Ghost} {w : World} {t : TypeId} {i : TInfo} (hi : layoutOf P t = some i) {nc : Bool} {x y : VVal} {v u : Value} {b : Bool}
    (h : veq i.shape nc x y = some b) (hx : VRel G x v) (hy : VRel G y u) (n : Nat) : (Op.equalIn (n + 1) t v u).run P w = .ok b w := by
  obtain ⟨inf, d, h1, h2, h3, h4, _, _, _⟩ := layout_info hi
  rw [h3] at h
  unfold veq at h
  split at h
  · next e =>
    have := shape_bool e; subst this
    simp only [VRel] at hx hy; subst hx hy
    simp at h; subst h
    simp [Op.equalIn, run_underlying h2]
  · next p e =>
    obtain ⟨ms, rfl, _⟩ := shape_iface e
    simp only [VRel] at hx hy; subst hx hy
    split at h
    · simp at h; subst h
      simp [Op.equalIn, run_underlying h2]
    · cases h
  · next p t' x' e =>
    obtain ⟨ms, rfl, _⟩ := shape_iface e
    simp only [VRel] at hx hy; obtain ⟨y', rfl, _⟩ := hy; subst hx
    simp at h; subst h
    simp [Op.equalIn, run_underlying h2]
  · next p t' x' e =>
    obtain ⟨ms, rfl, _⟩ := shape_iface e
    simp only [VRel] at hx hy; obtain ⟨y', rfl, _⟩ := hx; subst hy
    simp at h; subst h
    simp [Op.equalIn, run_underlying h2]
  · next e' e =>
    have := shape_ptr e; subst this
    simp only [VRel] at hx hy; subst hx hy
    simp at h; subst h
    simp [Op.equalIn, run_underlying h2]
  · next e' _ _ e =>
    have := shape_ptr e; subst this
    simp only [VRel] at hx hy; obtain ⟨_, _, rfl⟩ := hy; subst hx
    simp at h; subst h
    simp [Op.equalIn, run_underlying h2]
  · next e' _ _ _ e =>
    have := shape_ptr e; subst this
    simp only [VRel] at hx hy; obtain ⟨_, _, rfl⟩ := hy; subst hx
    simp at h; subst h
    simp [Op.equalIn, run_underlying h2]
  · next e' _ e =>
    have := shape_ptr e; subst this
    simp only [VRel] at hx hy; obtain ⟨_, _, _, _, _, rfl, _⟩ := hy; subst hx
    simp at h; subst h
    simp [Op.equalIn, run_underlying h2]
  · next e' _ _ e =>
    have := shape_ptr e; subst this
    simp only [VRel] at hx hy; obtain ⟨_, _, rfl⟩ := hx; subst hy
    simp at h; subst h
    simp [Op.equalIn, run_underlying h2]
  · next e' _ _ _ e =>
    have := shape_ptr e; subst this
    simp only [VRel] at hx hy; obtain ⟨_, _, rfl⟩ := hx; subst hy
    simp at h; subst h
    simp [Op.equalIn, run_underlying h2]
  · next e' _ e =>
    have := shape_ptr e; subst this
    simp only [VRel] at hx hy; obtain ⟨_, _, _, _, _, rfl, _⟩ := hx; subst hy
    simp at h; subst h
    simp [Op.equalIn, run_underlying h2]
  · next e =>
    obtain ⟨_, _, _, rfl⟩ := shape_func e
    simp only [VRel] at hx hy; subst hx hy
    simp at h; subst h
    simp [Op.equalIn, run_underlying h2]
  · next e =>
    obtain ⟨_, _, _, rfl⟩ := shape_func e
    simp only [VRel] at hx hy; obtain ⟨_, _, rfl, _⟩ := hy; subst hx
    simp at h; subst h
    simp [Op.equalIn, run_underlying h2]
  · next e =>
    obtain ⟨_, _, _, rfl⟩ := shape_func e
    simp only [VRel] at hx hy; obtain ⟨_, _, rfl, _⟩ := hx; subst hy
    simp at h; subst h
    simp [Op.equalIn, run_underlying h2]
  · next b' e =>
    have := shape_map e; subst this
    simp only [VRel] at hx; subst hx
    simp at h
    cases b' with
    | none => simp only [VRel] at hy; subst hy; simp at h; subst h; simp [Op.equalIn, run_underlying h2]
    | some o => simp only [VRel] at hy; obtain ⟨_, _, rfl⟩ := hy; simp at h; subst h; simp [Op.equalIn, run_underlying h2]
  · next b' e =>
    have := shape_map e; subst this
    simp only [VRel] at hx hy; obtain ⟨_, _, rfl⟩ := hx; subst hy
    simp at h; subst h
    simp [Op.equalIn, run_underlying h2]
  · cases h

theorem eqGuardIn_plain {w : World} {t : TypeId} {ms : Array (String × TypeId)} (h2 : P.underlying t = some (.interface ms)) (hms : ms.isEmpty = true) (n : Nat) : (Op.eqGuardIn (n + 1) t .nilIface .nilIface).run P w = .ok false w := by
  simp [Op.eqGuardIn, run_underlying h2, hms]

theorem eqGuard_plain {w : World} {op : BinOp} {t : TypeId} {x y : Operand} {ms : Array (String × TypeId)} (h2 : P.underlying t = some (.interface ms)) (hms : ms.isEmpty = true) : (eqGuard op t x y .nilIface .nilIface).run P w = .ok () w := by
  have h3 : (Op.eqGuardIn Op.maxDepth t .nilIface .nilIface).run P w = .ok false w := eqGuardIn_plain h2 hms 9999
  unfold eqGuard
  generalize Op.maxDepth = n at h3 ⊢
  cases op
  all_goals (first | rfl | skip)
  all_goals
    simp only [Bool.not_true, Bool.false_eq_true, if_false, Sem.run_ite, Sem.run_bind, h3, Result.andThen_ok, Sem.run_pure, ite_self]

theorem eqGuard_const {w : World} {op : BinOp} {t : TypeId} {x y : Operand} (h : (isConstNil x || isConstNil y) = true) : (eqGuard op t x y .nilIface .nilIface).run P w = .ok () w := by
  simp only [Bool.or_eq_true] at h
  rcases h with h | h
  · cases x <;> simp [isConstNil] at h
    rw [eqGuard_nil_constL]; rfl
  · cases y <;> simp [isConstNil] at h
    rw [eqGuard_nil_constR]; rfl

theorem veq_guard {G : Ghost} {w : World} {op : BinOp} {t : TypeId} {i : TInfo} (hi : layoutOf P t = some i) {x y : Operand} {a c : VVal} {v u : Value} {b : Bool}
    (h : veq i.shape (isConstNil x || isConstNil y) a c = some b) (hx : VRel G a v) (hy : VRel G c u) : (eqGuard op t x y v u).run P w = .ok () w := by
  obtain ⟨inf, d, h1, h2, h3, h4, _, _, _⟩ := layout_info hi
  rw [h3] at h
  unfold veq at h
  split at h
  · simp only [VRel] at hx; subst hx; rw [eqGuard_at_bool]; rfl
  · next p e =>
    obtain ⟨ms, rfl, hp⟩ := shape_iface e
    simp only [VRel] at hx hy; subst hx hy
    split at h
    · next hc =>
      simp only [Bool.or_eq_true] at hc
      rcases hc with hc | hc
      · exact eqGuard_plain h2 (by rw [hp]; exact hc)
      · exact eqGuard_const (by simpa using hc)
    · cases h
  · simp only [VRel] at hx hy; obtain ⟨_, rfl, _⟩ := hy; subst hx; rw [eqGuard_nil_iface]; rfl
  · simp only [VRel] at hx; obtain ⟨_, rfl, _⟩ := hx; rw [eqGuard_at_iface]; rfl
  · simp only [VRel] at hx; subst hx; rw [eqGuard_at_pointer]; rfl
  · simp only [VRel] at hx; subst hx; rw [eqGuard_at_pointer]; rfl
  · simp only [VRel] at hx; subst hx; rw [eqGuard_at_pointer]; rfl
  · simp only [VRel] at hx; subst hx; rw [eqGuard_at_pointer]; rfl
  · simp only [VRel] at hx; obtain ⟨_, _, rfl⟩ := hx; rw [eqGuard_at_pointer]; rfl
  · simp only [VRel] at hx; obtain ⟨_, _, rfl⟩ := hx; rw [eqGuard_at_pointer]; rfl
  · simp only [VRel] at hx; obtain ⟨_, _, _, _, _, rfl, _⟩ := hx; rw [eqGuard_at_pointer]; rfl
  · simp only [VRel] at hx; subst hx; rw [eqGuard_at_nilFunc]; rfl
  · simp only [VRel] at hx; subst hx; rw [eqGuard_at_nilFunc]; rfl
  · simp only [VRel] at hx; obtain ⟨_, _, rfl, _⟩ := hx; rw [eqGuard_at_func]; rfl
  · simp only [VRel] at hx; subst hx; rw [eqGuard_at_map]; rfl
  · simp only [VRel] at hx; obtain ⟨_, _, rfl⟩ := hx; rw [eqGuard_at_map]; rfl
  · cases h

theorem binOp_of_equal {w : World} {t : TypeId} {v u : Value} {b : Bool} (h : (Op.equal t v u).run P w = .ok b w)
    (hv : (∀ k n, v ≠ .int k n) ∧ (∀ k n, v ≠ .float k n) ∧ (∀ k n m, v ≠ .complex k n m) ∧ (∀ s, v ≠ .string s)) :
    (binOp .eql t v u).run P w = .ok (.bool b) w ∧ (binOp .neq t v u).run P w = .ok (.bool (!b)) w := by
  obtain ⟨h1, h2, h3, h4⟩ := hv
  cases v <;> first
    | (exact absurd rfl (h1 _ _))
    | (exact absurd rfl (h2 _ _))
    | (exact absurd rfl (h3 _ _ _))
    | (exact absurd rfl (h4 _))
    | (simp [binOp, h])

theorem veq_left {G : Ghost} {sh : VShape} {nc : Bool} {a c : VVal} {v : Value} {b : Bool} (h : veq sh nc a c = some b) (hx : VRel G a v) :
    (∀ k n, v ≠ .int k n) ∧ (∀ k n, v ≠ .float k n) ∧ (∀ k n m, v ≠ .complex k n m) ∧ (∀ s, v ≠ .string s) := by
  unfold veq at h
  split at h
  all_goals first
    | (cases h; done)
    | (simp only [VRel] at hx; subst hx; simp; done)
    | (simp only [VRel] at hx; obtain ⟨_, rfl, _⟩ := hx; simp; done)
    | (simp only [VRel] at hx; obtain ⟨_, _, rfl⟩ := hx; simp; done)
    | (simp only [VRel] at hx; obtain ⟨_, _, rfl, _⟩ := hx; simp; done)
    | (simp only [VRel] at hx; obtain ⟨_, _, _, _, _, rfl, _⟩ := hx; simp; done)

theorem vun_sound {G : Ghost} {w : World} {op : UnOp} {a : VVal} {v : Value} {r : VVal} (hx : VRel G a v) (h : vun op a = some r) : Gives P G w (Op.unary op v) r := by
  unfold vun at h
  split at h
  · simp only [VRel] at hx; subst hx
    simp at h; subst h
    exact .int (by simp [Op.unary, Op.intArith])
  · simp only [VRel] at hx; subst hx
    simp at h; subst h
    exact .bool (by simp [Op.unary])
  · cases h

end Go.Pv

/- The pure operations, sound: part 2. -/
namespace Go.Pv
variable {P : Program}

theorem fieldInfos_get : ∀ {fs : List Field} {l : List FInfo} {n : Nat} {fi : FInfo}, fieldInfos P fs = some l → l[n]? = some fi → ∃ f inf d, fs[n]? = some f ∧ P.info? f.type = some inf ∧ P.underlying f.type = some d ∧ fi = { off := f.offset, ty := f.type, size := inf.size, agg := descAgg d, named := f.name != "_" }
  | [], l, n, fi, h, e => by simp [fieldInfos] at h; subst h; simp at e
  | f :: fs, l, n, fi, h, e => by
    simp only [fieldInfos] at h
    split at h
    · next i is h1 h2 =>
      simp at h; subst h
      cases n with
      | zero =>
        simp at e; subst e
        unfold fieldInfo at h1
        split at h1
        · next inf d g1 g2 =>
          simp at h1
          exact ⟨f, inf, d, rfl, g1, g2, h1.symm⟩
        · cases h1
      | succ n =>
        simp at e
        simpa using fieldInfos_get h2 e
    · cases h

theorem vnil_sound {G : Ghost} {w : World} {x r : VVal} {v : Value} (hx : VRel G x v) (h : vnil x = some r) :
    VRel G r v ∧ ∀ (ρ : Operand → Value) (y : Operand) (o : Oper), o.op = .nilCheck y → ρ y = v → (execOp ρ o).run P w = .ok (.value v) w := by
  unfold vnil at h
  split at h
  · simp at h; subst h
    refine ⟨hx, fun ρ y o e1 e2 => ?_⟩
    simp only [VRel] at hx
    obtain ⟨b, _, rfl⟩ := hx
    simp only [execOp, e1, e2]
    rfl
  · simp at h; subst h
    refine ⟨hx, fun ρ y o e1 e2 => ?_⟩
    simp only [VRel] at hx
    obtain ⟨b, _, rfl⟩ := hx
    simp only [execOp, e1, e2]
    rfl
  · simp at h; subst h
    refine ⟨hx, fun ρ y o e1 e2 => ?_⟩
    simp only [VRel] at hx
    obtain ⟨_, _, _, _, _, rfl, _⟩ := hx
    simp only [execOp, e1, e2]
    rfl
  · simp at h; subst h
    refine ⟨hx, fun ρ y o e1 e2 => ?_⟩
    simp only [VRel] at hx
    obtain ⟨_, rfl, _⟩ := hx
    simp only [execOp, e1, e2]
    rfl
  · simp at h; subst h
    refine ⟨hx, fun ρ y o e1 e2 => ?_⟩
    simp only [VRel] at hx
    obtain ⟨_, rfl, _⟩ := hx
    simp only [execOp, e1, e2]
    rfl
  · simp at h; subst h
    refine ⟨hx, fun ρ y o e1 e2 => ?_⟩
    simp only [VRel] at hx
    obtain ⟨_, _, rfl, _⟩ := hx
    simp only [execOp, e1, e2]
    rfl
  · cases h

theorem vfieldAddr_sound {G : Ghost} {w : World} {s : TypeId} {x r : VVal} {v : Value} {f : Nat} (hx : VRel G x v) (h : vfieldAddr (layoutOf P) s x f = some r) :
    Gives P G w (Instr.fieldAt s v f) r := by
  unfold vfieldAddr at h
  split at h
  · next i hi =>
    obtain ⟨inf, d, h1, h2, h3, _, _, _, _⟩ := layout_info hi
    split at h
    · next fs hs =>
      split at h
      · next fi hf =>
        split at h
        · next hz =>
          obtain ⟨fa, rfl, hfs⟩ := shape_struct (h3.symm.trans hs)
          obtain ⟨fl, finf, fd, g1, g2, g3, rfl⟩ := fieldInfos_get hfs hf
          obtain ⟨b, o, rfl, hr⟩ := vshift_rel hx h
          refine ⟨_, ?_, hr⟩
          have g1' : fa[f]? = some fl := by simpa using g1
          simp only [Instr.fieldAt, Sem.run_bind, run_underlying h2, Result.andThen_ok, g1', Instr.sureAddr, Sem.run_pure, fieldPlace, run_sizeOf' g2]
          rw [if_neg hz]
          simp [addr_add]
        · cases h
      · cases h
    · cases h
  · cases h

theorem vindexAddr_sound {G : Ghost} {w : World} {t : TypeId} {x ix r : VVal} {v u : Value} (hx : VRel G x v) (hu : VRel G ix u) (h : vindexAddr (layoutOf P) t x ix = some r) :
    Gives P G w (Instr.indexAt t v u) r := by
  unfold vindexAddr at h
  split at h
  · next i k n hi =>
    obtain ⟨inf, d, h1, h2, h3, _, _, _, _⟩ := layout_info hi
    simp only [VRel] at hu; subst hu
    split at h
    · next e cells len cap hs =>
      have := shape_slice (h3.symm.trans hs); subst this
      split at h
      · next ei he =>
        split at h
        · next hb =>
          obtain ⟨einf, ed, g1, g2, _, _, g4, _, _⟩ := layout_info he
          simp only [VRel] at hx
          obtain ⟨a, rcap, rfl, hl, _, hc⟩ := hx
          rcases hc with hc | ⟨b, off, rc, total, rfl, hk, hlt, hrs⟩
          · rw [hc] at hb; simp at hb
          · have hip : VRel G (.iptr cells) (.pointer (some ⟨b, off, none⟩)) := by
              simp only [VRel]; exact ⟨b, off, rc, total, hk, rfl, hlt, hrs⟩
            obtain ⟨b', o', e1, hr⟩ := vshift_rel hip h
            cases e1
            refine ⟨_, ?_, hr⟩
            simp only [Instr.indexAt, asIntOf, Sem.run_bind, Sem.run_pure, Result.andThen_ok, run_underlying h2]
            rw [if_pos ⟨hb.1, hb.2.1⟩]
            simp [run_sizeOf' g1, addr_add, g4]
        · cases h
      · cases h
    · next e gt gsz len hs =>
      have := shape_slice (h3.symm.trans hs); subst this
      split at h
      · next ei he =>
        split at h
        · next hb =>
          obtain ⟨einf, ed, g1, g2, _, _, g4, _, _⟩ := layout_info he
          simp only [VRel] at hx
          obtain ⟨b, rcap, rfl, hl, hg, hgo⟩ := hx
          simp at h; subst h
          refine ⟨.pointer (some ⟨b, 0 + n.toNat * ei.size, none⟩), ?_, ?_⟩
          · simp only [Instr.indexAt, asIntOf, Sem.run_bind, Sem.run_pure, Result.andThen_ok, run_underlying h2]
            rw [if_pos ⟨hb.1, hb.2.1⟩]
            simp [run_sizeOf' g1, addr_add, g4]
          · simp only [VRel]
            refine ⟨b, by simp, hg, fun b' m hf => ?_⟩
            obtain ⟨q1, q2⟩ := hgo b' m hf
            exact ⟨q1, fun q => by obtain ⟨total, q3, q4, _⟩ := q2 q; exact ⟨total, q3, q4⟩⟩
        · cases h
      · cases h
    · next e o off len cap hs =>
      have := shape_slice (h3.symm.trans hs); subst this
      split at h
      · next ei he =>
        split at h
        · next hb =>
          obtain ⟨einf, ed, g1, g2, _, _, g4, _, _⟩ := layout_info he
          simp only [VRel] at hx
          obtain ⟨b, hk, rfl⟩ := hx
          simp at h; subst h
          refine ⟨.pointer (some ⟨b, off + n.toNat * ei.size, none⟩), ?_, by simp only [VRel]; exact ⟨b, hk, rfl⟩⟩
          simp only [Instr.indexAt, asIntOf, Sem.run_bind, Sem.run_pure, Result.andThen_ok, run_underlying h2]
          rw [if_pos hb]
          simp [run_sizeOf' g1, addr_add, g4]
        · cases h
      · cases h
    · next len e hs =>
      have := shape_array (h3.symm.trans hs); subst this
      split at h
      · next ei he =>
        split at h
        · next hb =>
          obtain ⟨einf, ed, g1, g2, _, _, g4, _, _⟩ := layout_info he
          obtain ⟨b', o', rfl, hr⟩ := vshift_rel hx h
          refine ⟨_, ?_, hr⟩
          simp only [Instr.indexAt, asIntOf, Sem.run_bind, Sem.run_pure, Result.andThen_ok, run_underlying h2, Instr.sureAddr]
          rw [if_pos hb]
          simp [run_sizeOf' g1, addr_add, g4]
        · cases h
      · cases h
    · cases h
  · cases h

theorem vpart_sound {G : Ghost} {w : World} {t : TypeId} {inf : TypeInfo} {d : TypeDesc} (h1 : P.info? t = some inf) (h2 : P.underlying t = some d) {cs : List VVal} {us : Array Value} (hr : VRels G cs us.toList) (ho : Ones us.toList) {off : Nat} {r : VVal}
    (h : vpart (descAgg d) inf.size cs off = some r) : Gives P G w (part t us off) r := by
  unfold vpart at h
  unfold Gives part
  simp only [Sem.run_bind, run_isAgg h2, Result.andThen_ok]
  cases hd : descAgg d with
  | true =>
    simp only [hd, if_true] at h ⊢
    split at h
    · next hl =>
      simp at h; subst h
      simp only [Sem.run_bind, run_sizeOf' h1, Result.andThen_ok, Sem.run_pure]
      refine ⟨_, rfl, ?_⟩
      have e : (us.extract off (off + inf.size)).toList = (us.toList.drop off).take inf.size := by
        rw [Array.toList_extract]; simp [List.extract]
      simp only [VRel]
      exact ⟨_, rfl, by rw [e]; exact (hr.drop _).take _, by rw [e]; exact (ho.drop _).take _⟩
    · cases h
  | false =>
    simp only [hd, Bool.false_eq_true, if_false] at h ⊢
    obtain ⟨u, hu, hru⟩ := hr.get h
    have hu' : us[off]? = some u := by simpa using hu
    rw [hu']
    exact ⟨u, rfl, hru⟩

theorem vfield_sound {G : Ghost} {w : World} {t : TypeId} {x r : VVal} {v : Value} {f : Nat} (hx : VRel G x v) (h : vfield (layoutOf P) t x f = some r) :
    Gives P G w (Instr.field t v f) r := by
  unfold vfield at h
  split at h
  · next i cs hi =>
    obtain ⟨inf, d, h1, h2, h3, _, _, _, _⟩ := layout_info hi
    split at h
    · next fs hs =>
      split at h
      · next fi hf =>
        obtain ⟨fa, rfl, hfs⟩ := shape_struct (h3.symm.trans hs)
        obtain ⟨fl, finf, fd, g1, g2, g3, rfl⟩ := fieldInfos_get hfs hf
        have g1' : fa[f]? = some fl := by simpa using g1
        simp only [VRel] at hx
        obtain ⟨c, rfl, hr, ho⟩ := hx
        obtain ⟨u, hu, hru⟩ := vpart_sound (w := w) g2 g3 hr ho h
        refine ⟨u, ?_, hru⟩
        simp only [Instr.field, Sem.run_bind, run_underlying h2, Result.andThen_ok, g1', asAgg, Sem.run_pure, hu]
      · cases h
    · cases h
  · cases h

theorem vindex_sound {G : Ghost} {w : World} {t : TypeId} {x ix r : VVal} {v u : Value} (hx : VRel G x v) (hu : VRel G ix u) (h : vindex (layoutOf P) t x ix = some r) :
    Gives P G w (Instr.index t v u) r := by
  unfold vindex at h
  split at h
  · next i s k n hi =>
    obtain ⟨inf, d, h1, h2, h3, _, _, _, _⟩ := layout_info hi
    simp only [VRel] at hx hu; subst hx hu
    split at h
    · next hb =>
      have := shape_str (h3.symm.trans hb.1); subst this
      simp only [Option.map_eq_some_iff] at h
      obtain ⟨c, hc, rfl⟩ := h
      refine .int ?_
      have hlt : n.toNat < s.length := by
        rcases Nat.lt_or_ge n.toNat s.length with q | q
        · exact q
        · rw [List.getElem?_eq_none q] at hc; cases hc
      have hc' : (⟨s.toArray⟩ : ByteArray)[n.toNat]? = some c := by
        rw [ByteArray.getElem?_lt' _ _ (by simpa [ByteArray.size] using hlt)]
        rw [List.getElem?_eq_getElem hlt] at hc
        simpa [ByteArray.getElem_eq_getElem_data] using hc
      simp only [Instr.index, asIntOf, Sem.run_bind, Sem.run_pure, Result.andThen_ok, run_underlying h2]
      rw [if_pos hb.2, hc']
      rfl
    · cases h
  · next i cs k n hi =>
    obtain ⟨inf, d, h1, h2, h3, _, _, _, _⟩ := layout_info hi
    split at h
    · next len e hs =>
      have := shape_array (h3.symm.trans hs); subst this
      split at h
      · next ei he =>
        split at h
        · next hb =>
          obtain ⟨einf, ed, g1, g2, _, ga, g4, _, _⟩ := layout_info he
          simp only [VRel] at hx hu; subst hu
          obtain ⟨c, rfl, hr, ho⟩ := hx
          rw [ga, g4] at h
          obtain ⟨y, hy, hry⟩ := vpart_sound (w := w) g1 g2 hr ho h
          refine ⟨y, ?_, hry⟩
          simp only [Instr.index, asIntOf, Sem.run_bind, Sem.run_pure, Result.andThen_ok, run_underlying h2]
          rw [if_pos hb]
          simp only [Sem.run_bind, run_sizeOf' g1, Result.andThen_ok, hy]
        · cases h
      · cases h
    · cases h
  · cases h

theorem vextract_sound {G : Ghost} {w : World} {x r : VVal} {v : Value} {i : Nat} (hx : VRel G x v) (h : vextract x i = some r) : Gives P G w (Instr.extract v i) r := by
  unfold vextract at h
  split at h
  · simp only [VRel] at hx
    obtain ⟨c, rfl, hr⟩ := hx
    obtain ⟨u, hu, hru⟩ := hr.get h
    have hu' : c[i]? = some u := by simpa using hu
    exact ⟨u, by simp [Instr.extract, hu'], hru⟩
  · cases h

theorem run_zeroValue {t : TypeId} {inf : TypeInfo} {z : Value} (h : P.info? t = some inf) (hz : inf.zero = some z) (w : World) : (zeroValue t).run P w = .ok z w := by
  simp [zeroValue, run_typeInfo' h, hz]

theorem run_assert_plain {w : World} {xt t : TypeId} {ok : Bool} {d : TypeDesc} (h2 : P.underlying t = some d) (hd : ∀ ms, d ≠ .interface ms) :
    (∀ y, (Instr.typeAssert (.iface t y) xt t ok).run P w = .ok (if ok then .tuple #[y, .bool true] else y) w) ∧
    (∀ d' y z, d' ≠ t → (zeroValue t).run P w = .ok z w → (Instr.typeAssert (.iface d' y) xt t true).run P w = .ok (.tuple #[z, .bool false]) w) ∧
    (∀ z, (zeroValue t).run P w = .ok z w → (Instr.typeAssert .nilIface xt t true).run P w = .ok (.tuple #[z, .bool false]) w) := by
  refine ⟨fun y => ?_, fun d' y z hn hz => ?_, fun z hz => ?_⟩
  · simp only [Instr.typeAssert, Sem.run_bind, run_underlying h2, Result.andThen_ok]
    cases d <;> first
      | (exact absurd rfl (hd _))
      | (cases ok <;> simp; done)
  · simp only [Instr.typeAssert, Sem.run_bind, run_underlying h2, Result.andThen_ok]
    cases d <;> first
      | (exact absurd rfl (hd _))
      | (simp [hn, hz])
  · simp only [Instr.typeAssert, Sem.run_bind, run_underlying h2, Result.andThen_ok]
    cases d <;> first
      | (exact absurd rfl (hd _))
      | (simp [hz])

theorem VRels.two {G : Ghost} {x y : VVal} {a b : Value} (h : VRel G x a) (k : VRel G y b) : VRels G [x, y] [a, b] := by
  simp only [VRels]
  exact ⟨a, [b], rfl, h, b, [], rfl, k, rfl⟩

theorem VRel.pair {G : Ghost} {x y : VVal} {a b : Value} (h : VRel G x a) (k : VRel G y b) : VRel G (.tuple [x, y]) (.tuple #[a, b]) := by
  simp only [VRel]
  exact ⟨#[a, b], rfl, VRels.two h k⟩

theorem vassert_sound {G : Ghost} {w : World} {x r : VVal} {v : Value} {xt t : TypeId} {ok : Bool} (hx : VRel G x v) (h : vassert (layoutOf P) x t ok = some r) : Gives P G w (Instr.typeAssert v xt t ok) r := by
  unfold vassert at h
  split at h
  · next i hi =>
    obtain ⟨inf, d, h1, h2, h3, _, _, _, hz⟩ := layout_info hi
    have hzero : ∀ z, i.zero = some z → ∃ z', (zeroValue t).run P w = .ok z' w ∧ VRel G z z' := fun z e => by
      rw [hz, Option.map_eq_some_iff] at e
      obtain ⟨z', e, rfl⟩ := e
      exact ⟨z', run_zeroValue h1 e w, ofConst_rel G z'⟩
    split at h
    · cases h
    · next hsh _ d' x' hn =>
      have hd : ∀ ms, d ≠ .interface ms := fun ms e => by subst e; exact hn _ h3
      simp only [VRel] at hx
      obtain ⟨y, rfl, hy⟩ := hx
      obtain ⟨a1, a2, a3⟩ := run_assert_plain (P := P) (w := w) (xt := xt) (ok := ok) h2 hd
      split at h
      · next e =>
        subst e
        simp at h; subst h
        refine ⟨_, a1 y, ?_⟩
        cases ok with
        | true => simpa using VRel.pair hy (by simp [VRel])
        | false => simpa using hy
      · next e =>
        split at h
        · next hok =>
          subst hok
          simp only [Option.map_eq_some_iff] at h
          obtain ⟨z, hz', rfl⟩ := h
          obtain ⟨z', hz1, hz2⟩ := hzero z hz'
          exact ⟨_, a2 _ _ _ e hz1, VRel.pair hz2 (by simp [VRel])⟩
        · cases h
    · next hsh _ hn =>
      have hd : ∀ ms, d ≠ .interface ms := fun ms e => by subst e; exact hn _ h3
      simp only [VRel] at hx; subst hx
      obtain ⟨a1, a2, a3⟩ := run_assert_plain (P := P) (w := w) (xt := xt) (ok := ok) h2 hd
      split at h
      · next hok =>
        subst hok
        simp only [Option.map_eq_some_iff] at h
        obtain ⟨z, hz', rfl⟩ := h
        obtain ⟨z', hz1, hz2⟩ := hzero z hz'
        exact ⟨_, a3 _ hz1, VRel.pair hz2 (by simp [VRel])⟩
      · cases h
    · cases h
  · cases h

/-! ### Lengths -/
theorem EntsRel.length {G : Ghost} : ∀ {xs : List VEnt} {ys : List MapEntry}, EntsRel G xs ys → xs.length = ys.length
  | [], _, h => by simp only [EntsRel] at h; simp [h]
  | x :: xs, _, h => by
    obtain ⟨y, ys, rfl, _, h⟩ := h
    simp [h.length]

theorem vlen_sound {M : VMem} {G : Ghost} {w : World} (hm : MemOk M G w) {x r : VVal} {v : Value} {t : TypeId} (hx : VRel G x v) (h : vlen (layoutOf P) M.ob t x = some r) (ty : TypeId) :
    Gives P G w (Builtin.len_ #[t] ty #[v]) r := by
  unfold vlen at h
  split at h
  · next i hi =>
    obtain ⟨inf, d, h1, h2, h3, _, _, _, hz⟩ := layout_info hi
    split at h
    · next hs =>
      have := shape_str (h3.symm.trans hs); subst this
      simp only [VRel] at hx; subst hx
      simp at h; subst h
      refine .int ?_
      simp [Builtin.len_, run_underlying h2, goInt]
      rfl
    · next hs =>
      have := shape_slice (h3.symm.trans hs); subst this
      simp only [VRel] at hx; obtain ⟨a, rc, rfl, _⟩ := hx
      simp at h; subst h
      refine .int ?_
      simp [Builtin.len_, run_underlying h2, goInt]
    · next hs =>
      have := shape_slice (h3.symm.trans hs); subst this
      simp only [VRel] at hx; obtain ⟨a, _, rfl⟩ := hx
      simp at h; subst h
      refine .int ?_
      simp [Builtin.len_, run_underlying h2, goInt]
    · next hs =>
      have := shape_slice (h3.symm.trans hs); subst this
      simp only [VRel] at hx; obtain ⟨a, _, rfl, _⟩ := hx
      simp at h; subst h
      refine .int ?_
      simp [Builtin.len_, run_underlying h2, goInt]
    · next hs =>
      have := shape_map (h3.symm.trans hs); subst this
      simp only [VRel] at hx; subst hx
      simp at h; subst h
      refine .int ?_
      simp [Builtin.len_, run_underlying h2, goInt]
    · next o hs =>
      have := shape_map (h3.symm.trans hs); subst this
      simp only [VRel] at hx; obtain ⟨b, hk, rfl⟩ := hx
      split at h
      · next es cl ho =>
        simp at h; subst h
        obtain ⟨b', res, hk', hw, hr⟩ := hm.ob o _ ho
        have := hm.obI b b' o hk hk'; subst this
        refine .int ?_
        obtain ⟨l, hrl, hp, _⟩ := hr
        have hlen := hrl.length.trans hp.length_eq
        simp only [Array.length_toList] at hlen
        simp [Builtin.len_, run_underlying h2, goInt, getObj, Sem.run, hw, hlen]
      · cases h
    · cases h
  · cases h

theorem vcap_sound {G : Ghost} {w : World} {x r : VVal} {v : Value} {t : TypeId} (hx : VRel G x v) (h : vcap (layoutOf P) t x = some r) (ty : TypeId) :
    Gives P G w (Builtin.cap_ #[t] ty #[v]) r := by
  unfold vcap at h
  split at h
  · next i hi =>
    obtain ⟨inf, d, h1, h2, h3, _, _, _, hz⟩ := layout_info hi
    split at h
    · next hs =>
      have := shape_slice (h3.symm.trans hs); subst this
      simp only [VRel, CapOk] at hx; obtain ⟨a, rc, rfl, _, rfl, _⟩ := hx
      simp at h; subst h
      refine .int ?_
      simp [Builtin.cap_, run_underlying h2, goInt]
    · next hs =>
      have := shape_slice (h3.symm.trans hs); subst this
      simp only [VRel, CapOk] at hx; obtain ⟨a, rc, rfl, _, ⟨_, rfl⟩, _⟩ := hx
      simp at h; subst h
      refine .int ?_
      simp [Builtin.cap_, run_underlying h2, goInt]
    · next hs =>
      have := shape_slice (h3.symm.trans hs); subst this
      simp only [VRel] at hx; obtain ⟨a, _, rfl⟩ := hx
      simp at h; subst h
      refine .int ?_
      simp [Builtin.cap_, run_underlying h2, goInt]
    · cases h
  · cases h

theorem vmax_sound {G : Ghost} {w : World} {xs : List VVal} {us : Array Value} {r : VVal} {b : Bool} (hx : VRels G xs us.toList) (h : vmax b xs = some r) (tys : Array TypeId) (ty : TypeId) :
    Gives P G w (if b then Builtin.max_ tys ty us else Builtin.min_ tys ty us) r := by
  unfold vmax at h
  split at h
  · next k x k' y =>
    split at h
    · next e =>
      subst e
      simp at h; subst h
      simp only [VRels, VRel] at hx
      obtain ⟨_, _, e1, rfl, _, _, e2, rfl, rfl⟩ := hx
      subst e2
      refine .int ?_
      cases b with
      | true => simp [Builtin.max_, e1, Builtin.max2]
      | false => simp [Builtin.min_, e1, Builtin.min2]
    · cases h
  · cases h

end Go.Pv
