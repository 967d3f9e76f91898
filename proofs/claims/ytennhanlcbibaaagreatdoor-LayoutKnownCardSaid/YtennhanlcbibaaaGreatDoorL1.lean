/- What a run of the program in an abstract memory says of the machine: part 1. -/
import Derived.Calls
import Derived.Orders
import Derived.Laws.AppendOwn
import Derived.Laws.Slices
import Derived.KernelRfl
/- The abstract values and objects by which the functions of the program are followed, and how they stand to the model's values and memory. -/
namespace Go.Proofs.YtennhanlcbibaaaGreatDoor.Lb
open Go

/-- An abstract value. -/
inductive AVal where
  | bool (b : Bool)
  | int (k : IntKind) (n : Int)
  | flt (k : FloatKind) (bits : Nat)
  | str (s : ByteArray)
  | nilPtr
  | ptr (n g off : Nat)
  | iptr (x : AVal) (off : Nat)
  | rptr (n g sz j off : Nat)
  | imm (sz : Nat) (xs : List AVal) (full : Bool)
  | row (n g sz off len : Nat)
  | nilS
  | empS
  | nilMap
  | map (n : Nat)
  | fn (f : Fn) (first cap : List AVal)
  | yld (n : Nat)
  | brow (n sz off len : Nat)
  | nilFn
  | iface (t : TypeId) (v : AVal)
  | nilIface
  | agg (cs : List AVal)
  | tuple (vs : List AVal)
  | any
  deriving Inhabited

def AVal.cells : AVal → List AVal
  | .agg cs => cs
  | v => [v]

/-- A value of one cell. -/
def AVal.scalar : AVal → Bool
  | .agg _ | .tuple _ | .any => false
  | _ => true

/-- The ghost: where the named objects lie (a block and how many cells, or elements, it has), and which cells are never written again. -/
structure G where
  io : Nat → Nat → Option (Option Nat × Nat)
  im : Nat → Nat → Option Value

structure G.le (g g' : G) : Prop where
  io : ∀ n k t, g.io n k = some t → g'.io n k = some t
  im : ∀ b o v, g.im b o = some v → g'.im b o = some v

theorem G.le.refl (g : G) : g.le g := ⟨fun _ _ _ h => h, fun _ _ _ h => h⟩
theorem G.le.trans {a b c : G} (h : a.le b) (k : b.le c) : a.le c := ⟨fun n i t e => k.io n i t (h.io n i t e), fun n i t e => k.im n i t (h.im n i t e)⟩

/-- An abstract value stands for a value. -/
inductive VRel (g : G) : AVal → Value → Prop
  | bool (b : Bool) : VRel g (.bool b) (.bool b)
  | int (k : IntKind) (n : Int) : VRel g (.int k n) (.int k n)
  | flt (k : FloatKind) (n : Nat) : VRel g (.flt k n) (.float k n)
  | str (s : ByteArray) : VRel g (.str s) (.string s)
  | nilPtr : VRel g .nilPtr (.pointer none)
  | ptr (n k off b N : Nat) : g.io n k = some (some b, N) → VRel g (.ptr n k off) (.pointer (some ⟨b, off, none⟩))
  | iptr (x : AVal) (off b o : Nat) (vals : Nat → Value) : (∀ (i : Nat) (c : AVal), x.cells[i]? = some c → c.scalar = true ∧ g.im b (o + i) = some (vals i)) → (∀ (i : Nat) (c : AVal), x.cells[i]? = some c → VRel g c (vals i)) →
      VRel g (.iptr x off) (.pointer (some ⟨b, o + off, none⟩))
  | rptr (n k sz j off b N : Nat) : g.io n k = some (some b, N) → VRel g (.rptr n k sz j off) (.pointer (some ⟨b, j * sz + off, none⟩))
  | immNil (sz : Nat) (full : Bool) : VRel g (.imm sz [] full) (.slice none 0 0)
  | imm (sz : Nat) (xs : List AVal) (full : Bool) (b off cap : Nat) (vals : Nat → Nat → Value) : xs.length ≤ cap → cap ≤ maxLen → (full = true → cap = xs.length) →
      (∀ (j : Nat) (x : AVal), xs[j]? = some x → x.cells.length = sz) →
      (∀ (j : Nat) (x : AVal) (i : Nat) (c : AVal), xs[j]? = some x → x.cells[i]? = some c → c.scalar = true ∧ g.im b (off + j * sz + i) = some (vals j i)) →
      (∀ (j : Nat) (x : AVal) (i : Nat) (c : AVal), xs[j]? = some x → x.cells[i]? = some c → VRel g c (vals j i)) →
      VRel g (.imm sz xs full) (.slice (some ⟨b, off, none⟩) xs.length cap)
  | nilS : VRel g .nilS (.slice none 0 0)
  | empS (b o cap : Nat) : cap ≤ maxLen → VRel g .empS (.slice (some ⟨b, o, none⟩) 0 cap)
  | rowNil (n k sz : Nat) : g.io n k = some (none, 0) → VRel g (.row n k sz 0 0) (.slice none 0 0)
  | rowEmpty (n k sz off b o : Nat) (t : Option Nat × Nat) : g.io n k = some t → VRel g (.row n k sz off 0) (.slice (some ⟨b, o, none⟩) 0 0)
  | row (n k sz off len b N cap : Nat) : g.io n k = some (some b, N) → len ≤ cap → off + cap ≤ N → N ≤ maxLen → VRel g (.row n k sz off len) (.slice (some ⟨b, off * sz, none⟩) len cap)
  | nilMap : VRel g .nilMap (.map none)
  | map (n b N : Nat) : g.io n 0 = some (some b, N) → VRel g (.map n) (.map (some b))
  | fn (f : Fn) (first cap : List AVal) (first' cap' : Array Value) : first'.size = first.length → cap'.size = cap.length → (∀ (i : Nat) (c : AVal), first[i]? = some c → VRel g c (first'.getD i undef)) → (∀ (i : Nat) (c : AVal), cap[i]? = some c → VRel g c (cap'.getD i undef)) →
      VRel g (.fn f first cap) (.func f first' cap')
  | yld (n b N : Nat) : g.io n 0 = some (some b, N) → VRel g (.yld n) (.func (.yield b) #[] #[])
  | brow (n sz off len b N cap : Nat) : g.io n 0 = some (some b, N) → len ≤ cap → cap ≤ maxLen → VRel g (.brow n sz off len) (.slice (some ⟨b, off * sz, none⟩) len cap)
  | browE (n sz off b o N : Nat) : g.io n 0 = some (some b, N) → VRel g (.brow n sz off 0) (.slice (some ⟨b, o, none⟩) 0 0)
  | nilFn : VRel g .nilFn .nilFunc
  | iface (t : TypeId) (v : AVal) (v' : Value) : VRel g v v' → VRel g (.iface t v) (.iface t v')
  | nilIface : VRel g .nilIface .nilIface
  | agg (cs : List AVal) (cs' : Array Value) : cs'.size = cs.length → (∀ (i : Nat) (c : AVal), cs[i]? = some c → c.scalar = true) → (∀ (i : Nat) (c : AVal), cs[i]? = some c → VRel g c (cs'.getD i undef)) → VRel g (.agg cs) (.agg cs')
  | tuple (cs : List AVal) (cs' : Array Value) : cs'.size = cs.length → (∀ (i : Nat) (c : AVal), cs[i]? = some c → VRel g c (cs'.getD i undef)) → VRel g (.tuple cs) (.tuple cs')
  | any (v : Value) : VRel g .any v

theorem VRel.mono {g g' : G} (hg : g.le g') {a : AVal} {v : Value} (h : VRel g a v) : VRel g' a v := by
  induction h with
  | bool b => exact .bool b
  | int k n => exact .int k n
  | flt k n => exact .flt k n
  | str s => exact .str s
  | nilPtr => exact .nilPtr
  | ptr n k off b N h => exact .ptr n k off b N (hg.io _ _ _ h)
  | iptr x off b o vals h _ ih => exact .iptr x off b o vals (fun i c e => ⟨(h i c e).1, hg.im _ _ _ (h i c e).2⟩) ih
  | rptr n k sz j off b N h => exact .rptr n k sz j off b N (hg.io _ _ _ h)
  | immNil sz full => exact .immNil sz full
  | imm sz xs full b off cap vals h1 h2 h3 h4 h5 _ ih => exact .imm sz xs full b off cap vals h1 h2 h3 h4 (fun j x i c e f => ⟨(h5 j x i c e f).1, hg.im _ _ _ (h5 j x i c e f).2⟩) ih
  | nilS => exact .nilS
  | empS b o cap h => exact .empS b o cap h
  | rowNil n k sz h => exact .rowNil n k sz (hg.io _ _ _ h)
  | rowEmpty n k sz off b o t h => exact .rowEmpty n k sz off b o t (hg.io _ _ _ h)
  | row n k sz off len b N cap h h1 h2 h3 => exact .row n k sz off len b N cap (hg.io _ _ _ h) h1 h2 h3
  | nilMap => exact .nilMap
  | map n b N h => exact .map n b N (hg.io _ _ _ h)
  | fn f first cap first' cap' h1 h2 _ _ ih1 ih2 => exact .fn f first cap first' cap' h1 h2 ih1 ih2
  | yld n b N h => exact .yld n b N (hg.io _ _ _ h)
  | brow n sz off len b N cap h h1 h2 => exact .brow n sz off len b N cap (hg.io _ _ _ h) h1 h2
  | browE n sz off b o N h => exact .browE n sz off b o N (hg.io _ _ _ h)
  | nilFn => exact .nilFn
  | iface t v v' _ ih => exact .iface t v v' ih
  | nilIface => exact .nilIface
  | agg cs cs' h hs _ ih => exact .agg cs cs' h hs ih
  | tuple cs cs' h _ ih => exact .tuple cs cs' h ih
  | any v => exact .any v

theorem VRel.one {g : G} {a : AVal} {v : Value} (h : VRel g a v) (hs : a.scalar = true) : v.oneCell' = true ∧ v.cells = #[v] := by
  cases h <;> first | (exact ⟨rfl, rfl⟩) | (simp [AVal.scalar] at hs)

/-! ### Temporaries, as a tree -/
inductive Tr where
  | l
  | n (v : AVal) (a b : Tr)

def Tr.get : Tr → Nat → AVal
  | .l, _ => .any
  | .n v a b, i => match i with
    | 0 => v
    | i + 1 => bif Nat.beq (i % 2) 0 then a.get (i / 2) else b.get (i / 2)

def Tr.one : Nat → Nat → AVal → Tr
  | 0, _, _ => .l
  | f + 1, i, v => match i with
    | 0 => .n v .l .l
    | i + 1 => bif Nat.beq (i % 2) 0 then .n .any (Tr.one f (i / 2) v) .l else .n .any .l (Tr.one f (i / 2) v)

def Tr.set : Tr → Nat → AVal → Tr
  | .l, i, v => Tr.one (i + 1) i v
  | .n u a b, i, v => match i with
    | 0 => .n v a b
    | i + 1 => bif Nat.beq (i % 2) 0 then .n u (a.set (i / 2) v) b else .n u a (b.set (i / 2) v)

def Tr.setO (T : Tr) : Option Nat → AVal → Tr
  | none, _ => T
  | some d, v => T.set d v

def Tr.ofArgs (args : List AVal) (i : Nat := 0) (T : Tr := .l) : Tr :=
  match args with
  | [] => T
  | a :: as => Tr.ofArgs as (i + 1) (T.set i a)

/-- A loop over a function: the state of its record. -/
structure ALoop where
  st : LoopState
  pending : Option Code
  tr : Tr
  nt : Nat
  params : Array Tmp
  assign : Code
  body : Code

def ALoop.tmps (l : ALoop) : Nat → AVal := l.tr.get

inductive AObj where
  | cells (x : AVal)
  | row (sz gen : Nat) (xs : List AVal)
  | map (es : List (AVal × AVal))
  | loop (l : ALoop)
  | defd
  | dead

abbrev AHeap := List AObj

def AObj.gen : AObj → Option Nat
  | .dead => none
  | .row _ k _ => some k
  | _ => some 0

def AHeap.gen (H : AHeap) (n : Nat) : Option Nat := (H[n]?).bind AObj.gen

/-- The temporaries of a frame. -/
def TRel (g : G) (nt : Nat) (T : Nat → AVal) (tm : Array Value) : Prop := tm.size = nt ∧ ∀ i, i < nt → VRel g (T i) (tm.getD i undef)

theorem TRel.mono {g g' : G} (hg : g.le g') {nt : Nat} {T : Nat → AVal} {tm : Array Value} (h : TRel g nt T tm) : TRel g' nt T tm := ⟨h.1, fun i hi => (h.2 i hi).mono hg⟩

def ORel (g : G) (w : World) : AObj → Option Nat × Nat → Prop
  | .cells x, (some b, _) => ∃ arr t, w.heap[b]? = some (.cells arr t (0, 0)) ∧ arr.size = x.cells.length ∧ (∀ (i : Nat) (c : AVal), x.cells[i]? = some c → c.scalar = true ∧ VRel g c (arr.getD i undef))
  | .row _ _ xs, (none, N) => xs = [] ∧ N = 0
  | .row sz _ xs, (some b, N) => ∃ arr t, w.heap[b]? = some (.cells arr t (0, 0)) ∧ arr.size = N * sz ∧ xs.length ≤ N ∧ (∀ (j : Nat) (x : AVal), xs[j]? = some x → x.cells.length = sz ∧ ∀ (i : Nat) (c : AVal), x.cells[i]? = some c → c.scalar = true ∧ VRel g c (arr.getD (j * sz + i) undef))
  | .map es, (some b, _) => ∃ ents clock, w.heap[b]? = some (.map ents clock) ∧ ents.size = es.length ∧ (∀ (i : Nat) (k v : AVal), es[i]? = some (k, v) → ∃ e, ents[i]? = some e ∧ VRel g k e.key ∧ VRel g v e.val)
  | .loop l, (some b, _) => ∃ r, w.heap[b]? = some (.loop r) ∧ r.state = l.st ∧ r.pending = l.pending ∧ TRel g l.nt l.tmps r.tmps ∧ r.params = l.params ∧ r.assign = l.assign ∧ r.body = l.body
  | .defd, (some b, _) => w.heap[b]? = some (.deferred (some []))
  | .dead, _ => True
  | _, (none, _) => False

/-- Memory holds what the abstract heap says, for the objects that the ghost knows. -/
structure Inv (g : G) (w : World) (H : AHeap) : Prop where
  dom : ∀ n k t, g.io n k = some t → n < H.length
  live : ∀ n k t l, g.io n k = some t → H.gen n = some l → ∃ u, g.io n l = some u
  genle : ∀ n k t l, g.io n k = some t → H.gen n = some l → k ≤ l
  obj : ∀ n k o t, g.io n k = some t → H[n]? = some o → o.gen = some k → ORel g w o t
  lt : ∀ n k b N, g.io n k = some (some b, N) → b < w.heap.size
  inj : ∀ n m k l b N M, g.io n k = some (some b, N) → g.io m l = some (some b, M) → n = m
  imm : ∀ b o v, g.im b o = some v → w.cell? ⟨b, o, none⟩ = some v
  disj : ∀ n k b N o, g.io n k = some (some b, N) → H.gen n = some k → g.im b o = none

/-- What may have become of ghost and world. -/
structure Ext (g : G) (w : World) (H : AHeap) (g' : G) (w' : World) (H' : AHeap) : Prop where
  le : g.le g'
  size : w.heap.size ≤ w'.heap.size
  os : w'.os = w.os
  tape : w'.tape = w.tape
  output : w'.output = w.output
  frame : ∀ b, b < w.heap.size → (∀ n k N, g.io n k ≠ some (some b, N)) → w'.heap[b]? = w.heap[b]?
  newio : ∀ n k b N, g'.io n k = some (some b, N) → w.heap.size ≤ b ∨ ∃ m l M, g.io m l = some (some b, M)
  newim : ∀ b o v, g'.im b o = some v → g.im b o = some v ∨ w.heap.size ≤ b ∨ ∃ m l M, g.io m l = some (some b, M)
  len : H.length ≤ H'.length
  newname : ∀ n k t, g'.io n k = some t → n < H.length → ∃ l u, g.io n l = some u

theorem Ext.refl (g : G) (w : World) (H : AHeap) : Ext g w H g w H :=
  ⟨.refl g, Nat.le_refl _, rfl, rfl, rfl, fun _ _ _ => rfl, fun n k b N h => .inr ⟨n, k, N, h⟩, fun _ _ _ h => .inl h, Nat.le_refl _, fun n k t h _ => ⟨k, t, h⟩⟩

theorem Ext.trans {g1 g2 g3 : G} {w1 w2 w3 : World} {H1 H2 H3 : AHeap} (h : Ext g1 w1 H1 g2 w2 H2) (k : Ext g2 w2 H2 g3 w3 H3) : Ext g1 w1 H1 g3 w3 H3 := by
  refine ⟨h.le.trans k.le, Nat.le_trans h.size k.size, k.os.trans h.os, k.tape.trans h.tape, k.output.trans h.output, fun b hb hn => ?_, fun n i b N e => ?_, fun b o v e => ?_, Nat.le_trans h.len k.len, fun n i t e hn => ?_⟩
  · rw [k.frame b (Nat.lt_of_lt_of_le hb h.size) ?_, h.frame b hb hn]
    intro n i N e
    rcases h.newio n i b N e with h1 | ⟨m, l, M, h1⟩
    · omega
    · exact hn _ _ _ h1
  · rcases k.newio n i b N e with h1 | ⟨m, l, M, h1⟩
    · exact .inl (Nat.le_trans h.size h1)
    · exact h.newio m l b M h1
  · rcases k.newim b o v e with h1 | h1 | ⟨m, l, M, h1⟩
    · exact h.newim b o v h1
    · exact .inr (.inl (Nat.le_trans h.size h1))
    · exact .inr (h.newio m l b M h1)
  · obtain ⟨l, u, e2⟩ := k.newname n i t e (Nat.lt_of_lt_of_le hn h.len)
    exact h.newname n l u e2 hn

end Go.Proofs.YtennhanlcbibaaaGreatDoor.Lb

/- Single steps of the machine, in a function's own frame and in a round of a range over a function alike. -/
namespace Go.Proofs.YtennhanlcbibaaaGreatDoor.Lb
open Go

def on (b : Frame) (a : Act) (todo : List Item) : Frame := { b with tmps := a.tmps, todo := todo, defers := a.defers, mode := .run }

theorem on_eval (b : Frame) (a : Act) (todo : List Item) : (on b a todo).eval = a.eval := by
  funext x; cases x <;> rfl

section
variable {P : Program} {b : Frame} {a : Act} {k : List Item} {cs : List Frame} {w : World}

theorem on_skip : step P (lone (on b a (.code .skip :: k)) cs w) = .next (lone (on b a k) cs w) :=
  step_lone_go (by simp [stepG, stepG.exec, on])
theorem on_label {l : Nat} : step P (lone (on b a (.code (.label l) :: k)) cs w) = .next (lone (on b a k) cs w) :=
  step_lone_go (by simp [stepG, stepG.exec, on])
theorem on_inBlock {id : Nat} : step P (lone (on b a (.inBlock id :: k)) cs w) = .next (lone (on b a k) cs w) :=
  step_lone_go (by simp [stepG, stepG.exec, on])
theorem on_seq {x y : Code} : step P (lone (on b a (.code (.seq x y) :: k)) cs w) = .next (lone (on b a (.code x :: .code y :: k)) cs w) :=
  step_lone_go (by simp [stepG, stepG.exec, on])
theorem on_cond {c : Operand} {x y : Code} {t : Bool} (h : a.eval c = .bool t) :
    step P (lone (on b a (.code (.cond c x y) :: k)) cs w) = .next (lone (on b a (.code (if t then x else y) :: k)) cs w) :=
  step_lone_go (by
    have := congrFun (on_eval b a (.code (.cond c x y) :: k)) c
    simp only [on] at this
    simp [stepG, stepG.exec, on, this, h])
theorem on_block {id : Nat} {c : Code} : step P (lone (on b a (.code (.block id c) :: k)) cs w) = .next (lone (on b a (.code c :: .inBlock id :: k)) cs w) :=
  step_lone_go (by simp [stepG, stepG.exec, on])
theorem on_loop {c : Code} : step P (lone (on b a (.code (.loop c) :: k)) cs w) = .next (lone (on b a (.code c :: .inLoop c :: k)) cs w) :=
  step_lone_go (by simp [stepG, stepG.exec, on])
theorem on_inLoop {c : Code} : step P (lone (on b a (.inLoop c :: k)) cs w) = .next (lone (on b a (.code c :: .inLoop c :: k)) cs w) :=
  step_lone_go (by simp [stepG, stepG.exec, on])
theorem on_scope {c : Code} : step P (lone (on b a (.code (.scope c) :: k)) cs w) = .next (lone (on b a (.code c :: .inScope c :: k)) cs w) :=
  step_lone_go (by simp [stepG, stepG.exec, on])
theorem on_inScope {c : Code} : step P (lone (on b a (.inScope c :: k)) cs w) = .next (lone (on b a k) cs w) :=
  step_lone_go (by simp [stepG, stepG.exec, on])
theorem on_exit {id : Nat} {k' : List Item} (h : exitTo id k = some k') : step P (lone (on b a (.code (.exit id) :: k)) cs w) = .next (lone (on b a k') cs w) :=
  step_lone_go (by simp [stepG, stepG.exec, on, h])
theorem on_goto {l : Nat} {k' : List Item} (h : gotoIn l k = some k') : step P (lone (on b a (.code (.goto l) :: k)) cs w) = .next (lone (on b a k') cs w) :=
  step_lone_go (by simp [stepG, stepG.exec, on, h])
theorem on_region {id : Nat} {ops : Array Oper} : step P (lone (on b a (.code (.region id ops false) :: k)) cs w) = .next (lone (on b a (.inRegion ops (List.range ops.size) :: k)) cs w) :=
  step_lone_go (by simp [stepG, stepG.exec, on])
theorem on_region_draw {id : Nat} {ops : Array Oper} :
    step P (lone (on b a (.code (.region id ops true) :: k)) cs w) =
      .next (lone (on b a (.inRegion ops (Region.schedule (P.follows .mixedOrders) ops (w.tape w.drawn (.order b.fn id))) :: k)) cs { w with drawn := w.drawn + 1 }) :=
  step_lone_go (by simp [stepG, stepG.exec, on, choose, Sem.run, Question.forced, Question.cut])
theorem on_region_end {ops : Array Oper} : step P (lone (on b a (.inRegion ops [] :: k)) cs w) = .next (lone (on b a k) cs w) :=
  step_lone_go (by simp [stepG, stepG.exec, on])

theorem on_finish (b : Frame) (a : Act) (ops : Array Oper) (i : Nat) (rest : List Nat) (k : List Item) (v : Value) :
    (on b a (.inRegion ops (i :: rest) :: k)).finish v = on b (a.put ((ops[i]?).bind (·.dst)) v) (.inRegion ops rest :: k) := by
  cases h : (ops[i]?).bind (·.dst) <;> simp [Frame.finish, on, Act.put, h]

theorem on_op_skip {ops : Array Oper} {i : Nat} {rest : List Nat} (h : ((ops[i]?).map (Region.wanted · (yielded ops a.tmps))).getD false = false) :
    step P (lone (on b a (.inRegion ops (i :: rest) :: k)) cs w) =
      .next (lone (on b (a.put ((ops[i]?).bind (·.dst)) undef) (.inRegion ops rest :: k)) cs w) := by
  rw [← on_finish]
  exact step_lone_go (by
    have h' := h
    simp only [on] at *
    simp [stepG, stepG.exec, h'])

theorem on_op {ops : Array Oper} {i : Nat} {rest : List Nat} {o : Oper} (ho : ops[i]? = some o) (hw : Region.wanted o (yielded ops a.tmps) = true) (hd : ∀ c, o.op ≠ .defer c) :
    stepG P true { frame := on b a (.inRegion ops (i :: rest) :: k), callers := cs, status := .running, dying := none } w =
      stepG.apply P true (on b a (.inRegion ops (i :: rest) :: k)) cs none (execOp a.eval o) w := by
  have he := on_eval b a (.inRegion ops (i :: rest) :: k)
  simp only [on] at he
  cases hr : b.roundOf with
  | none => rw [hr] at he; simp [stepG, stepG.exec, stepG.oper, Frame.oper?, on, ho, hw, he, hr]
  | some l =>
    rw [hr] at he
    cases hop : o.op
    case defer c => exact absurd hop (hd c)
    all_goals simp [stepG, stepG.exec, stepG.oper, Frame.oper?, on, ho, hw, he, hr, hop]

/-- An operation that gives a value. -/
theorem on_value {ops : Array Oper} {i : Nat} {rest : List Nat} {o : Oper} {v : Value} {w' : World} (ho : ops[i]? = some o) (hw : Region.wanted o (yielded ops a.tmps) = true) (hd : ∀ c, o.op ≠ .defer c)
    (hr : (execOp a.eval o).run P w = .ok (.value v) w') :
    step P (lone (on b a (.inRegion ops (i :: rest) :: k)) cs w) = .next (lone (on b (a.put o.dst v) (.inRegion ops rest :: k)) cs w') := by
  have hf := on_finish b a ops i rest k v
  rw [ho] at hf
  simp only [Option.bind_some] at hf
  refine step_lone_go ?_
  rw [on_op ho hw hd, ← hf]
  simp [stepG.apply, hr]

theorem on_skipped {ops : Array Oper} {i : Nat} {rest : List Nat} {o : Oper} {w' : World} (ho : ops[i]? = some o) (hw : Region.wanted o (yielded ops a.tmps) = true) (hd : ∀ c, o.op ≠ .defer c)
    (hr : (execOp a.eval o).run P w = .ok .skip w') :
    step P (lone (on b a (.inRegion ops (i :: rest) :: k)) cs w) = .next (lone (on b (a.put o.dst undef) (.inRegion ops rest :: k)) cs w') := by
  have hf := on_finish b a ops i rest k undef
  rw [ho] at hf
  simp only [Option.bind_some] at hf
  refine step_lone_go ?_
  rw [on_op ho hw hd, ← hf]
  simp [stepG.apply, hr]

/-- A call of a function of the program: the frame that enters. -/
theorem on_enter {ops : Array Oper} {i : Nat} {rest : List Nat} {o : Oper} {f : FuncId} {args : Array Value} {w' : World} (ho : ops[i]? = some o) (hw : Region.wanted o (yielded ops a.tmps) = true) (hd : ∀ c, o.op ≠ .defer c)
    (hr : (execOp a.eval o).run P w = .ok (.enter f args) w') :
    step P (lone (on b a (.inRegion ops (i :: rest) :: k)) cs w) = .next (lone (Frame.enter P f args .normal) (on b a (.inRegion ops (i :: rest) :: k) :: cs) w') := by
  refine step_lone_go ?_
  rw [on_op ho hw hd]
  simp [stepG.apply, hr, on]

theorem on_round {ops : Array Oper} {i : Nat} {rest : List Nat} {o : Oper} {l : Nat} {f : FuncId} {tmps : Array Value} {as body : Code} {w' : World} (ho : ops[i]? = some o) (hw : Region.wanted o (yielded ops a.tmps) = true) (hd : ∀ c, o.op ≠ .defer c)
    (hr : (execOp a.eval o).run P w = .ok (.round l f tmps as body) w') :
    step P (lone (on b a (.inRegion ops (i :: rest) :: k)) cs w) = .next (lone (Frame.round l f tmps as body .normal) (on b a (.inRegion ops (i :: rest) :: k) :: cs) w') := by
  refine step_lone_go ?_
  rw [on_op ho hw hd]
  simp [stepG.apply, hr, on]
end
end Go.Proofs.YtennhanlcbibaaaGreatDoor.Lb

/- What it means that code, an operation, a function does, from one abstract state to another; and the rules for code. -/
namespace Go.Proofs.YtennhanlcbibaaaGreatDoor.Lb
open Go

/-- How a piece of code is left. -/
inductive Ex where
  | normal
  | exit (id : Nat)
  | ret

def ArrS (P : Program) (m : Machine) (b : Frame) (k : List Item) (cs : List Frame) : Ex → Act → World → Prop
  | .normal, a, w => Steps P m (lone (on b a k) cs w)
  | .exit id, a, w => ∃ k', exitTo id k' = exitTo id k ∧ Steps P m (lone (on b a (.code (.exit id) :: k')) cs w)
  | .ret, a, w => ∃ k', Steps P m (lone (on b a (.code .ret :: k')) cs w)

theorem ArrS.of_steps {P : Program} {m m₁ : Machine} {b : Frame} {k : List Item} {cs : List Frame} {e : Ex} {a : Act} {w : World}
    (h : Steps P m m₁) (h' : ArrS P m₁ b k cs e a w) : ArrS P m b k cs e a w := by
  cases e with
  | normal => exact h.trans h'
  | exit id => obtain ⟨k', e, s⟩ := h'; exact ⟨k', e, h.trans s⟩
  | ret => obtain ⟨k', s⟩ := h'; exact ⟨k', h.trans s⟩

/-- An item that an exit passes by. -/
theorem ArrS.pass {P : Program} {m : Machine} {b : Frame} {x : Item} {k : List Item} {cs : List Frame} {e : Ex} {a : Act} {w : World}
    (hx : ∀ id, exitTo id (x :: k) = exitTo id k) (hn : e ≠ .normal) (h : ArrS P m b (x :: k) cs e a w) : ArrS P m b k cs e a w := by
  cases e with
  | normal => exact absurd rfl hn
  | exit id => obtain ⟨k', e, s⟩ := h; exact ⟨k', e.trans (hx id), s⟩
  | ret => exact h

/-- The marks of the loops over functions that a frame has begun. -/
def DRel (g : G) (D : List Nat) (ds : List Deferred) : Prop :=
  ds.length = D.length ∧ ∀ (i : Nat) (n : Nat), D[i]? = some n → ∃ b N, g.io n 0 = some (some b, N) ∧ ds[i]? = some { target := .collected b, args := #[] }

theorem DRel.mono {g g' : G} (hg : g.le g') {D : List Nat} {ds : List Deferred} (h : DRel g D ds) : DRel g' D ds :=
  ⟨h.1, fun i n e => by obtain ⟨b, N, h1, h2⟩ := h.2 i n e; exact ⟨b, N, hg.io _ _ _ h1, h2⟩⟩

def RRel (g : G) : Option Nat → Option Nat → Prop
  | none, none => True
  | some n, some l => ∃ N, g.io n 0 = some (some l, N)
  | _, _ => False

theorem RRel.mono {g g' : G} (hg : g.le g') {r l : Option Nat} (h : RRel g r l) : RRel g' r l := by
  cases r <;> cases l <;> simp only [RRel] at * 
  obtain ⟨N, h⟩ := h
  exact ⟨N, hg.io _ _ _ h⟩

/-- What code does from an abstract state. -/
def CodeS (P : Program) (nt : Nat) (r : Option Nat) (c : Code) (T : Nat → AVal) (H : AHeap) (D : List Nat) (Q : Ex → (Nat → AVal) → AHeap → List Nat → Prop) : Prop :=
  ∀ (g : G) (a : Act) (w : World), Inv g w H → TRel g nt T a.tmps → DRel g D a.defers → ∀ (b : Frame) (k : List Item) (cs : List Frame), RRel g r b.roundOf →
    ∃ e T' H' D' g' a' w', Q e T' H' D' ∧ Inv g' w' H' ∧ Ext g w H g' w' H' ∧ TRel g' nt T' a'.tmps ∧ DRel g' D' a'.defers ∧ ArrS P (lone (on b a (.code c :: k)) cs w) b k cs e a' w'

/-- A loop, at the head of a round. -/
def LoopS (P : Program) (nt : Nat) (r : Option Nat) (c : Code) (T : Nat → AVal) (H : AHeap) (D : List Nat) (Q : Ex → (Nat → AVal) → AHeap → List Nat → Prop) : Prop :=
  ∀ (g : G) (a : Act) (w : World), Inv g w H → TRel g nt T a.tmps → DRel g D a.defers → ∀ (b : Frame) (k : List Item) (cs : List Frame), RRel g r b.roundOf →
    ∃ e T' H' D' g' a' w', Q e T' H' D' ∧ Inv g' w' H' ∧ Ext g w H g' w' H' ∧ TRel g' nt T' a'.tmps ∧ DRel g' D' a'.defers ∧ ArrS P (lone (on b a (.code c :: .inLoop c :: k)) cs w) b k cs e a' w'

section
variable {P : Program} {nt : Nat} {r : Option Nat} {T : Nat → AVal} {H : AHeap} {D : List Nat} {Q : Ex → (Nat → AVal) → AHeap → List Nat → Prop}

theorem code_mono {c : Code} {Q' : Ex → (Nat → AVal) → AHeap → List Nat → Prop} (h : CodeS P nt r c T H D Q) (hq : ∀ e T H D, Q e T H D → Q' e T H D) : CodeS P nt r c T H D Q' := by
  intro g a w hi ht hd b k cs hr
  obtain ⟨e, T', H', D', g', a', w', q, rest⟩ := h g a w hi ht hd b k cs hr
  exact ⟨e, T', H', D', g', a', w', hq _ _ _ _ q, rest⟩

theorem code_skip (h : Q .normal T H D) : CodeS P nt r .skip T H D Q :=
  fun g a w hi ht hd b k cs hr => ⟨.normal, T, H, D, g, a, w, h, hi, .refl g w H, ht, hd, .one on_skip⟩
theorem code_label {l : Nat} (h : Q .normal T H D) : CodeS P nt r (.label l) T H D Q :=
  fun g a w hi ht hd b k cs hr => ⟨.normal, T, H, D, g, a, w, h, hi, .refl g w H, ht, hd, .one on_label⟩
theorem code_exit {id : Nat} (h : Q (.exit id) T H D) : CodeS P nt r (.exit id) T H D Q :=
  fun g a w hi ht hd b k cs hr => ⟨.exit id, T, H, D, g, a, w, h, hi, .refl g w H, ht, hd, k, rfl, .refl _ _⟩
theorem code_ret (h : Q .ret T H D) : CodeS P nt r .ret T H D Q :=
  fun g a w hi ht hd b k cs hr => ⟨.ret, T, H, D, g, a, w, h, hi, .refl g w H, ht, hd, k, .refl _ _⟩

/-- What comes behind, where the code is left plainly. -/
def Then (next : (Nat → AVal) → AHeap → List Nat → Prop) (Q : Ex → (Nat → AVal) → AHeap → List Nat → Prop) : Ex → (Nat → AVal) → AHeap → List Nat → Prop
  | .normal => next
  | e => Q e

theorem code_seq {x y : Code} (h : CodeS P nt r x T H D (Then (fun T H D => CodeS P nt r y T H D Q) Q)) : CodeS P nt r (.seq x y) T H D Q := by
  intro g a w hi ht hd b k cs hr
  obtain ⟨e, T', H', D', g', a', w', q, hi', hx, ht', hd', harr⟩ := h g a w hi ht hd b (.code y :: k) cs hr
  cases e with
  | normal =>
    obtain ⟨e2, T2, H2, D2, g2, a2, w2, q2, hi2, hx2, ht2, hd2, harr2⟩ := q g' a' w' hi' ht' hd' b k cs (hr.mono hx.le)
    exact ⟨e2, T2, H2, D2, g2, a2, w2, q2, hi2, hx.trans hx2, ht2, hd2, .of_steps (.head on_seq harr) harr2⟩
  | exit id => exact ⟨_, T', H', D', g', a', w', q, hi', hx, ht', hd', .of_steps (.one on_seq) (.pass (x := .code y) (fun id => rfl) (by simp) harr)⟩
  | ret => exact ⟨_, T', H', D', g', a', w', q, hi', hx, ht', hd', .of_steps (.one on_seq) (.pass (x := .code y) (fun id => rfl) (by simp) harr)⟩

def aeval (nt : Nat) (T : Nat → AVal) : Operand → AVal
  | .tmp t => if t < nt then T t else .any
  | .const (.bool b) => .bool b
  | .const (.int k n) => .int k n
  | .const (.float k n) => .flt k n
  | .const (.string s) => .str s
  | .const (.pointer none) => .nilPtr
  | .const (.slice none 0 0) => .imm 0 [] true
  | .const (.map none) => .nilMap
  | .const .nilFunc => .nilFn
  | .const .nilIface => .nilIface
  | .const _ => .any
  | .global _ => .any
  | .func f => .fn (.func f) [] []

theorem TRel.eval {g : G} {nt : Nat} {T : Nat → AVal} {a : Act} (h : TRel g nt T a.tmps) (x : Operand) : VRel g (aeval nt T x) (a.eval x) := by
  cases x with
  | tmp t =>
    simp only [aeval, Act.eval]
    split
    · exact h.2 t ‹_›
    · exact .any _
  | const v =>
    simp only [Act.eval]
    unfold aeval
    split <;> first | (rename_i e; cases e; done) | skip
    all_goals (rename_i e; first | (injection e with e; subst e) | skip)
    all_goals first | exact .bool _ | exact .int _ _ | exact .flt _ _ | exact .str _ | exact .nilPtr | exact .immNil _ _ | exact .nilMap | exact .nilFn | exact .nilIface | exact .any _ | (cases e)
  | global g => exact .any _
  | func f => exact .fn _ _ _ _ _ rfl rfl (fun i c e => by simp at e) (fun i c e => by simp at e)

theorem code_cond {c : Operand} {x y : Code} {t : Bool} (hc : aeval nt T c = .bool t) (hx : t = true → CodeS P nt r x T H D Q) (hy : t = false → CodeS P nt r y T H D Q) : CodeS P nt r (.cond c x y) T H D Q := by
  intro g a w hi ht hd b k cs hr
  have hv := ht.eval c
  rw [hc] at hv
  have hv' : a.eval c = .bool t := by generalize a.eval c = u at hv; cases hv; rfl
  have hs := on_cond (P := P) (b := b) (k := k) (cs := cs) (w := w) (x := x) (y := y) hv'
  cases t with
  | true =>
    obtain ⟨e, T', H', D', g', a', w', q, h1, h2, h3, h4, harr⟩ := hx rfl g a w hi ht hd b k cs hr
    exact ⟨e, T', H', D', g', a', w', q, h1, h2, h3, h4, .of_steps (.one hs) harr⟩
  | false =>
    obtain ⟨e, T', H', D', g', a', w', q, h1, h2, h3, h4, harr⟩ := hy rfl g a w hi ht hd b k cs hr
    exact ⟨e, T', H', D', g', a', w', q, h1, h2, h3, h4, .of_steps (.one hs) harr⟩

def InBlock (id : Nat) (Q : Ex → (Nat → AVal) → AHeap → List Nat → Prop) : Ex → (Nat → AVal) → AHeap → List Nat → Prop
  | .exit i => if i = id then Q .normal else Q (.exit i)
  | e => Q e

theorem code_block {id : Nat} {c : Code} (h : CodeS P nt r c T H D (InBlock id Q)) : CodeS P nt r (.block id c) T H D Q := by
  intro g a w hi ht hd b k cs hr
  obtain ⟨e, T', H', D', g', a', w', q, h1, h2, h3, h4, harr⟩ := h g a w hi ht hd b (.inBlock id :: k) cs hr
  cases e with
  | normal => exact ⟨.normal, T', H', D', g', a', w', q, h1, h2, h3, h4, .head on_block (Steps.trans harr (.one on_inBlock))⟩
  | exit i =>
    obtain ⟨k', hk, hs⟩ := harr
    by_cases hid : i = id
    · simp only [InBlock, hid, if_true] at q
      subst hid
      refine ⟨.normal, T', H', D', g', a', w', q, h1, h2, h3, h4, .head on_block (Steps.trans hs (.one (on_exit (k' := k) (hk.trans (by simp [exitTo])))))⟩
    · simp only [InBlock, hid, if_false] at q
      refine ⟨.exit i, T', H', D', g', a', w', q, h1, h2, h3, h4, k', hk.trans ?_, .head on_block hs⟩
      have : (id == i) = false := by simp; exact fun h => hid h.symm
      simp [exitTo, this]
  | ret => exact ⟨.ret, T', H', D', g', a', w', q, h1, h2, h3, h4, .of_steps (b := b) (k := k) (cs := cs) (e := .ret) (.one on_block) harr⟩

theorem code_scope {c : Code} (h : CodeS P nt r c T H D Q) : CodeS P nt r (.scope c) T H D Q := by
  intro g a w hi ht hd b k cs hr
  obtain ⟨e, T', H', D', g', a', w', q, h1, h2, h3, h4, harr⟩ := h g a w hi ht hd b (.inScope c :: k) cs hr
  cases e with
  | normal => exact ⟨.normal, T', H', D', g', a', w', q, h1, h2, h3, h4, .head on_scope (Steps.trans harr (.one on_inScope))⟩
  | exit i => exact ⟨_, T', H', D', g', a', w', q, h1, h2, h3, h4, .of_steps (.one on_scope) (.pass (x := .inScope c) (fun id => rfl) (by simp) harr)⟩
  | ret => exact ⟨_, T', H', D', g', a', w', q, h1, h2, h3, h4, .of_steps (.one on_scope) (.pass (x := .inScope c) (fun id => rfl) (by simp) harr)⟩

theorem code_loop {c : Code} (h : LoopS P nt r c T H D Q) : CodeS P nt r (.loop c) T H D Q := by
  intro g a w hi ht hd b k cs hr
  obtain ⟨e, T', H', D', g', a', w', q, h1, h2, h3, h4, harr⟩ := h g a w hi ht hd b k cs hr
  exact ⟨e, T', H', D', g', a', w', q, h1, h2, h3, h4, .of_steps (.one on_loop) harr⟩

/-- One round, and then the loop again, where the round ends plainly. -/
theorem loop_round {c : Code} (h : CodeS P nt r c T H D (Then (fun T H D => LoopS P nt r c T H D Q) Q)) : LoopS P nt r c T H D Q := by
  intro g a w hi ht hd b k cs hr
  obtain ⟨e, T', H', D', g', a', w', q, hi', hx, ht', hd', harr⟩ := h g a w hi ht hd b (.inLoop c :: k) cs hr
  cases e with
  | normal =>
    obtain ⟨e2, T2, H2, D2, g2, a2, w2, q2, hi2, hx2, ht2, hd2, harr2⟩ := q g' a' w' hi' ht' hd' b k cs (hr.mono hx.le)
    exact ⟨e2, T2, H2, D2, g2, a2, w2, q2, hi2, hx.trans hx2, ht2, hd2, .of_steps (Steps.trans harr (.one on_inLoop)) harr2⟩
  | exit id => exact ⟨_, T', H', D', g', a', w', q, hi', hx, ht', hd', .pass (x := .inLoop c) (fun id => rfl) (by simp) harr⟩
  | ret => exact ⟨_, T', H', D', g', a', w', q, hi', hx, ht', hd', .pass (x := .inLoop c) (fun id => rfl) (by simp) harr⟩
end

/-! ### Operations -/
def ARel (g : G) (as : List AVal) (vs : Array Value) : Prop := vs.size = as.length ∧ ∀ (i : Nat) (c : AVal), as[i]? = some c → VRel g c (vs.getD i undef)

theorem ARel.mono {g g' : G} (hg : g.le g') {as : List AVal} {vs : Array Value} (h : ARel g as vs) : ARel g' as vs := ⟨h.1, fun i c e => (h.2 i c e).mono hg⟩

def upd (T : Nat → AVal) (d : Nat) (v : AVal) : Nat → AVal := fun i => if i = d then v else T i

def updO (T : Nat → AVal) (d : Option Nat) (v : AVal) : Nat → AVal :=
  match d with
  | some d => upd T d v
  | none => T

theorem TRel.put {g : G} {nt : Nat} {T : Nat → AVal} {a : Act} (h : TRel g nt T a.tmps) (dst : Option Nat) {v : AVal} {v' : Value} (hv : VRel g v v') : TRel g nt (updO T dst v) (a.put dst v').tmps := by
  cases dst with
  | none => exact h
  | some d =>
    refine ⟨by simp [Act.put]; exact h.1, fun i hi => ?_⟩
    simp only [updO, upd, Act.put]
    by_cases e : i = d
    · subst e
      have : i < a.tmps.size := by rw [h.1]; exact hi
      simp [this]
      exact hv
    · rw [if_neg e]
      have := h.2 i hi
      have he : d ≠ i := fun x => e x.symm
      simpa [Array.getElem?_setIfInBounds_ne he] using this

/-- The operands of an operation. -/
def ERel (g : G) (nt : Nat) (T : Nat → AVal) (a : Act) (o : Oper) : Prop := ∀ x ∈ o.op.operands, VRel g (aeval nt T x) (a.eval x)

/-- An operation of a region, where it is wanted. -/
def OpS (P : Program) (nt : Nat) (o : Oper) (T : Nat → AVal) (H : AHeap) (v : AVal) (H' : AHeap) : Prop :=
  ∀ (g : G) (a : Act) (w : World), Inv g w H → ERel g nt T a o → ∀ (b : Frame) (ops : Array Oper) (i : Nat) (rest : List Nat) (k : List Item) (cs : List Frame), ops[i]? = some o → Region.wanted o (yielded ops a.tmps) = true →
    ∃ g' v' w', Inv g' w' H' ∧ Ext g w H g' w' H' ∧ VRel g' v v' ∧ Steps P (lone (on b a (.inRegion ops (i :: rest) :: k)) cs w) (lone (on b (a.put o.dst v') (.inRegion ops rest :: k)) cs w')

/-- An operation that is no call: it comes at once to a value, or to none. -/
def OpV (P : Program) (nt : Nat) (o : Oper) (T : Nat → AVal) (H : AHeap) (v : AVal) (H' : AHeap) : Prop :=
  ∀ (g : G) (a : Act) (w : World), Inv g w H → ERel g nt T a o → ∃ g' v' w', Inv g' w' H' ∧ Ext g w H g' w' H' ∧ VRel g' v v' ∧
    ((execOp a.eval o).run P w = .ok (.value v') w' ∨ ((execOp a.eval o).run P w = .ok .skip w' ∧ v' = undef))

theorem op_of_value {P : Program} {nt : Nat} {o : Oper} {T : Nat → AVal} {H : AHeap} {v : AVal} {H' : AHeap} (hd : ∀ c, o.op ≠ .defer c) (h : OpV P nt o T H v H') : OpS P nt o T H v H' := by
  intro g a w hi ht b ops i rest k cs ho hw
  obtain ⟨g', v', w', h1, h2, h3, h4 | ⟨h4, rfl⟩⟩ := h g a w hi ht
  · exact ⟨g', v', w', h1, h2, h3, .one (on_value ho hw hd h4)⟩
  · exact ⟨g', undef, w', h1, h2, h3, .one (on_skipped ho hw hd h4)⟩

/-- What has come of operation j, as far as a guard asks: a truth value, nothing (it was not wanted), or not known. -/
def yieldOf : AVal → Option (Option Bool)
  | .bool b => some (some b)
  | .tuple [] => some none
  | _ => none

def ayielded (nt : Nat) (ops : Array Oper) (T : Nat → AVal) (j : Nat) : Option (Option Bool) :=
  match (ops[j]?).bind (·.dst) with
  | some t => if t < nt then yieldOf (T t) else none
  | none => none

/-- The guard of an operation holds, or does not. -/
def AWanted (nt : Nat) (ops : Array Oper) (T : Nat → AVal) (o : Oper) (x : Bool) : Prop :=
  match o.guard with
  | none => x = true
  | some (j, want) => ∃ y, ayielded nt ops T j = some y ∧ x = (y == some want)

theorem AWanted.wanted {g : G} {nt : Nat} {ops : Array Oper} {T : Nat → AVal} {o : Oper} {x : Bool} (h : AWanted nt ops T o x) {tm : Array Value} (ht : TRel g nt T tm) : Region.wanted o (yielded ops tm) = x := by
  unfold AWanted at h
  unfold Region.wanted
  split at h
  · rename_i hg; rw [hg]; exact h.symm
  · rename_i j want hg
    rw [hg]
    obtain ⟨y, hy, rfl⟩ := h
    unfold ayielded at hy
    unfold yielded
    cases hd : (ops[j]?).bind (·.dst) with
    | none => rw [hd] at hy; simp at hy
    | some t =>
      rw [hd] at hy
      simp only at hy
      split at hy
      · rename_i hlt
        have hv := ht.2 t hlt
        have hsz : t < tm.size := by rw [ht.1]; exact hlt
        have : tm.getD t undef = tm[t] := by simp [Array.getD, hsz]
        rw [this] at hv
        unfold yieldOf at hy
        split at hy
        · rename_i b' hT
          rw [hT] at hv
          injection hy with hy
          subst hy
          generalize hu : tm[t] = u at hv
          cases hv
          simp only [hd, Option.bind_some, Array.getElem?_eq_getElem hsz, hu]
        · rename_i hT
          rw [hT] at hv
          injection hy with hy
          subst hy
          generalize hu : tm[t] = u at hv
          cases hv
          simp only [hd, Option.bind_some, Array.getElem?_eq_getElem hsz, hu]
        · cases hy
      · cases hy

theorem undef_rel (g : G) : VRel g (.tuple []) undef := .tuple [] #[] rfl (fun i c e => by simp at e)

/-- The rest of the operations of a region, in the order of the text. -/
def OpsL (P : Program) (nt : Nat) (r : Option Nat) (ops : Array Oper) (l : List Oper) (T : Nat → AVal) (H : AHeap) (Q : (Nat → AVal) → AHeap → Prop) : Prop :=
  ∀ (k0 : Nat), (∀ j, l[j]? = ops[k0 + j]?) → ∀ (g : G) (a : Act) (w : World), Inv g w H → TRel g nt T a.tmps → ∀ (b : Frame) (k : List Item) (cs : List Frame), RRel g r b.roundOf →
    ∃ T' H' g' a' w', Q T' H' ∧ Inv g' w' H' ∧ Ext g w H g' w' H' ∧ TRel g' nt T' a'.tmps ∧ a'.defers = a.defers ∧ Steps P (lone (on b a (.inRegion ops (List.range' k0 l.length) :: k)) cs w) (lone (on b a' k) cs w')

section
variable {P : Program} {nt : Nat} {r : Option Nat} {ops : Array Oper} {T : Nat → AVal} {H : AHeap} {Q : (Nat → AVal) → AHeap → Prop}

theorem ops_nil (h : Q T H) : OpsL P nt r ops [] T H Q :=
  fun k0 hk g a w hi ht b k cs hr => ⟨T, H, g, a, w, h, hi, .refl g w H, ht, rfl, .one on_region_end⟩

theorem put_defers (a : Act) (d : Option Nat) (v : Value) : (a.put d v).defers = a.defers := by cases d <;> rfl

theorem ops_cons {o : Oper} {l : List Oper} {v : AVal} {H' : AHeap} (hw : AWanted nt ops T o true) (ho : OpS P nt o T H v H') (h : OpsL P nt r ops l (updO T o.dst v) H' Q) : OpsL P nt r ops (o :: l) T H Q := by
  intro k0 hk g a w hi ht b k cs hr
  have h0 : ops[k0]? = some o := by simpa using (hk 0).symm
  have hk' : ∀ j, l[j]? = ops[k0 + 1 + j]? := fun j => by have := hk (j + 1); simpa [Nat.add_assoc, Nat.add_comm 1 j] using this
  simp only [List.length_cons, List.range'_succ]
  obtain ⟨g', v', w', h1, h2, h3, hs⟩ := ho g a w hi (fun x _ => ht.eval x) b ops k0 (List.range' (k0 + 1) l.length) k cs h0 (hw.wanted ht)
  obtain ⟨T2, H2, g2, a2, w2, q, i2, x2, t2, d2, s2⟩ := h (k0 + 1) hk' g' (a.put o.dst v') w' h1 ((ht.mono h2.le).put o.dst h3) b k cs (hr.mono h2.le)
  exact ⟨T2, H2, g2, a2, w2, q, i2, h2.trans x2, t2, d2.trans (put_defers _ _ _), hs.trans s2⟩

theorem ops_unwanted {o : Oper} {l : List Oper} (hw : AWanted nt ops T o false) (h : OpsL P nt r ops l (updO T o.dst (.tuple [])) H Q) : OpsL P nt r ops (o :: l) T H Q := by
  intro k0 hk g a w hi ht b k cs hr
  have h0 : ops[k0]? = some o := by simpa using (hk 0).symm
  have hk' : ∀ j, l[j]? = ops[k0 + 1 + j]? := fun j => by have := hk (j + 1); simpa [Nat.add_assoc, Nat.add_comm 1 j] using this
  simp only [List.length_cons, List.range'_succ]
  have hs := on_op_skip (P := P) (b := b) (a := a) (k := k) (cs := cs) (w := w) (ops := ops) (i := k0) (rest := List.range' (k0 + 1) l.length) (by rw [h0]; simpa using hw.wanted ht)
  rw [h0] at hs
  simp only [Option.bind_some] at hs
  obtain ⟨T2, H2, g2, a2, w2, q, i2, x2, t2, d2, s2⟩ := h (k0 + 1) hk' g (a.put o.dst undef) w hi (ht.put o.dst (undef_rel g)) b k cs hr
  exact ⟨T2, H2, g2, a2, w2, q, i2, x2, t2, d2.trans (put_defers _ _ _), .head hs s2⟩

theorem code_region {D : List Nat} {Q : Ex → (Nat → AVal) → AHeap → List Nat → Prop} {id : Nat} {l : List Oper} (h : OpsL P nt r l.toArray l T H (fun T H => Q .normal T H D)) : CodeS P nt r (.region id l.toArray false) T H D Q := by
  intro g a w hi ht hd b k cs hr
  obtain ⟨T2, H2, g2, a2, w2, q, i2, x2, t2, d2, s2⟩ := h 0 (by simp) g a w hi ht b k cs hr
  refine ⟨.normal, T2, H2, D, g2, a2, w2, q, i2, x2, t2, ?_, ?_⟩
  · rw [d2]; exact hd.mono x2.le
  · refine .head on_region ?_
    rw [List.range_eq_range']
    simpa using s2
end
end Go.Proofs.YtennhanlcbibaaaGreatDoor.Lb

/- What a call leaves behind: its own objects are forgotten, its own rows become lists that nobody writes any more. -/
namespace Go.Proofs.YtennhanlcbibaaaGreatDoor.Lb
open Go

/-- No object from m on is named. -/
inductive ABelow (m : Nat) : AVal → Prop
  | bool (b : Bool) : ABelow m (.bool b)
  | int (k : IntKind) (n : Int) : ABelow m (.int k n)
  | flt (k : FloatKind) (n : Nat) : ABelow m (.flt k n)
  | str (s : ByteArray) : ABelow m (.str s)
  | nilPtr : ABelow m .nilPtr
  | ptr (n k off : Nat) : n < m → ABelow m (.ptr n k off)
  | iptr (x : AVal) (off : Nat) : (∀ (i : Nat) (c : AVal), x.cells[i]? = some c → ABelow m c) → ABelow m (.iptr x off)
  | rptr (n k sz j off : Nat) : n < m → ABelow m (.rptr n k sz j off)
  | imm (sz : Nat) (xs : List AVal) (full : Bool) : (∀ (j : Nat) (x : AVal) (i : Nat) (c : AVal), xs[j]? = some x → x.cells[i]? = some c → ABelow m c) → ABelow m (.imm sz xs full)
  | row (n k sz off len : Nat) : n < m → ABelow m (.row n k sz off len)
  | nilS : ABelow m .nilS
  | empS : ABelow m .empS
  | nilMap : ABelow m .nilMap
  | map (n : Nat) : n < m → ABelow m (.map n)
  | fn (f : Fn) (first cap : List AVal) : (∀ (i : Nat) (c : AVal), first[i]? = some c → ABelow m c) → (∀ (i : Nat) (c : AVal), cap[i]? = some c → ABelow m c) → ABelow m (.fn f first cap)
  | yld (n : Nat) : n < m → ABelow m (.yld n)
  | brow (n sz off len : Nat) : n < m → ABelow m (.brow n sz off len)
  | nilFn : ABelow m .nilFn
  | iface (t : TypeId) (v : AVal) : ABelow m v → ABelow m (.iface t v)
  | nilIface : ABelow m .nilIface
  | agg (cs : List AVal) : (∀ (i : Nat) (c : AVal), cs[i]? = some c → ABelow m c) → ABelow m (.agg cs)
  | tuple (cs : List AVal) : (∀ (i : Nat) (c : AVal), cs[i]? = some c → ABelow m c) → ABelow m (.tuple cs)
  | any : ABelow m .any

theorem VRel.names {g : G} {m : Nat} (hg : ∀ n k t, g.io n k = some t → n < m) {a : AVal} {v : Value} (h : VRel g a v) : ABelow m a := by
  induction h with
  | bool b => exact .bool b
  | int k n => exact .int k n
  | flt k n => exact .flt k n
  | str s => exact .str s
  | nilPtr => exact .nilPtr
  | ptr n k off b N h => exact .ptr n k off (hg _ _ _ h)
  | iptr x off b o vals h _ ih => exact .iptr x off ih
  | rptr n k sz j off b N h => exact .rptr _ _ _ _ _ (hg _ _ _ h)
  | immNil sz full => exact .imm _ _ _ (fun j x i c e => by simp at e)
  | imm sz xs full b off cap vals h1 h2 h3 h4 h5 _ ih => exact .imm _ _ _ ih
  | nilS => exact .nilS
  | empS b o cap h => exact .empS
  | rowNil n k sz h => exact .row _ _ _ _ _ (hg _ _ _ h)
  | rowEmpty n k sz off b o t h => exact .row _ _ _ _ _ (hg _ _ _ h)
  | row n k sz off len b N cap h h1 h2 h3 => exact .row _ _ _ _ _ (hg _ _ _ h)
  | nilMap => exact .nilMap
  | map n b N h => exact .map n (hg _ _ _ h)
  | fn f first cap first' cap' h1 h2 _ _ ih1 ih2 => exact .fn f first cap ih1 ih2
  | yld n b N h => exact .yld n (hg _ _ _ h)
  | brow n sz off len b N cap h h1 h2 => exact .brow _ _ _ _ (hg _ _ _ h)
  | browE n sz off b o N h => exact .brow _ _ _ _ (hg _ _ _ h)
  | nilFn => exact .nilFn
  | iface t v v' _ ih => exact .iface t v ih
  | nilIface => exact .nilIface
  | agg cs cs' h hs _ ih => exact .agg cs ih
  | tuple cs cs' h _ ih => exact .tuple cs ih
  | any v => exact .any

theorem VRel.of_below {g g' : G} {m : Nat} (hio : ∀ n k t, g.io n k = some t → n < m → g'.io n k = some t) (him : ∀ b o v, g.im b o = some v → g'.im b o = some v) {a : AVal} {v : Value} (h : VRel g a v) (hb : ABelow m a) : VRel g' a v := by
  induction h with
  | bool b => exact .bool b
  | int k n => exact .int k n
  | flt k n => exact .flt k n
  | str s => exact .str s
  | nilPtr => exact .nilPtr
  | ptr n k off b N h => cases hb; exact .ptr n k off b N (hio _ _ _ h ‹_›)
  | iptr x off b o vals h _ ih => cases hb with | iptr _ _ hb => exact .iptr x off b o vals (fun i c e => ⟨(h i c e).1, him _ _ _ (h i c e).2⟩) (fun i c e => ih i c e (hb i c e))
  | rptr n k sz j off b N h => cases hb; exact .rptr n k sz j off b N (hio _ _ _ h ‹_›)
  | immNil sz full => exact .immNil sz full
  | imm sz xs full b off cap vals h1 h2 h3 h4 h5 _ ih =>
    cases hb with
    | imm _ _ _ hb => exact .imm sz xs full b off cap vals h1 h2 h3 h4 (fun j x i c e f => ⟨(h5 j x i c e f).1, him _ _ _ (h5 j x i c e f).2⟩) (fun j x i c e f => ih j x i c e f (hb j x i c e f))
  | nilS => exact .nilS
  | empS b o cap h => exact .empS b o cap h
  | rowNil n k sz h => cases hb; exact .rowNil n k sz (hio _ _ _ h ‹_›)
  | rowEmpty n k sz off b o t h => cases hb; exact .rowEmpty n k sz off b o t (hio _ _ _ h ‹_›)
  | row n k sz off len b N cap h h1 h2 h3 => cases hb; exact .row n k sz off len b N cap (hio _ _ _ h ‹_›) h1 h2 h3
  | nilMap => exact .nilMap
  | map n b N h => cases hb; exact .map n b N (hio _ _ _ h ‹_›)
  | fn f first cap first' cap' h1 h2 _ _ ih1 ih2 => cases hb with | fn _ _ _ hb1 hb2 => exact .fn f first cap first' cap' h1 h2 (fun i c e => ih1 i c e (hb1 i c e)) (fun i c e => ih2 i c e (hb2 i c e))
  | yld n b N h => cases hb; exact .yld n b N (hio _ _ _ h ‹_›)
  | brow n sz off len b N cap h h1 h2 => cases hb; exact .brow n sz off len b N cap (hio _ _ _ h ‹_›) h1 h2
  | browE n sz off b o N h => cases hb; exact .browE n sz off b o N (hio _ _ _ h ‹_›)
  | nilFn => exact .nilFn
  | iface t v v' _ ih => cases hb; exact .iface t v v' (ih ‹_›)
  | nilIface => exact .nilIface
  | agg cs cs' h hs _ ih => cases hb with | agg _ hb => exact .agg cs cs' h hs (fun i c e => ih i c e (hb i c e))
  | tuple cs cs' h _ ih => cases hb with | tuple _ hb => exact .tuple cs cs' h (fun i c e => ih i c e (hb i c e))
  | any v => exact .any v

/-- What becomes of a value when the objects from m on are forgotten. -/
inductive Frz (m : Nat) (H : AHeap) : AVal → AVal → Prop
  | same (a : AVal) : ABelow m a → Frz m H a a
  | imm (sz : Nat) (xs : List AVal) (full : Bool) : ABelow m (.imm sz xs full) → Frz m H (.imm sz xs full) (.imm sz xs false)
  | row (n k sz off len : Nat) (xs zs : List AVal) : m ≤ n → H[n]? = some (.row sz k xs) → zs.length = len →
      (∀ (j : Nat) (z : AVal), zs[j]? = some z → ∃ x, xs[off + j]? = some x ∧ z.cells.length = x.cells.length) →
      (∀ (j : Nat) (z x : AVal) (i : Nat) (c d : AVal), zs[j]? = some z → xs[off + j]? = some x → x.cells[i]? = some c → z.cells[i]? = some d → d.scalar = true) →
      (∀ (j : Nat) (z x : AVal) (i : Nat) (c d : AVal), zs[j]? = some z → xs[off + j]? = some x → x.cells[i]? = some c → z.cells[i]? = some d → Frz m H c d) →
      Frz m H (.row n k sz off len) (.imm sz zs false)
  | agg (cs ds : List AVal) : ds.length = cs.length → (∀ (i : Nat) (c d : AVal), cs[i]? = some c → ds[i]? = some d → d.scalar = true) → (∀ (i : Nat) (c d : AVal), cs[i]? = some c → ds[i]? = some d → Frz m H c d) → Frz m H (.agg cs) (.agg ds)
  | tuple (cs ds : List AVal) : ds.length = cs.length → (∀ (i : Nat) (c d : AVal), cs[i]? = some c → ds[i]? = some d → Frz m H c d) → Frz m H (.tuple cs) (.tuple ds)
  | iface (t : TypeId) (a b : AVal) : Frz m H a b → Frz m H (.iface t a) (.iface t b)

theorem getElem?_some_of_lt {α : Type} {l : List α} {i : Nat} (h : i < l.length) : ∃ x, l[i]? = some x := ⟨l[i], List.getElem?_eq_getElem h⟩
theorem lt_of_getElem?_some {α : Type} {l : List α} {i : Nat} {x : α} (h : l[i]? = some x) : i < l.length := (List.getElem?_eq_some_iff.1 h).1

theorem Frz.rel {g g' : G} {m : Nat} {H : AHeap} (hio : ∀ n k t, g.io n k = some t → n < m → g'.io n k = some t) (him : ∀ b o v, g.im b o = some v → g'.im b o = some v)
    (hrow : ∀ (n k sz : Nat) (xs : List AVal) (b N : Nat), m ≤ n → H[n]? = some (.row sz k xs) → g.io n k = some (some b, N) → ∀ (j : Nat) (x : AVal), xs[j]? = some x → x.cells.length = sz ∧ ∀ (i : Nat) (c : AVal), x.cells[i]? = some c → ∃ u, g'.im b (j * sz + i) = some u ∧ VRel g c u)
    {a a' : AVal} (hf : Frz m H a a') : ∀ {v : Value}, VRel g a v → VRel g' a' v := by
  induction hf with
  | same a hb => exact fun h => h.of_below hio him hb
  | imm sz xs full hb =>
    intro v h
    have h := h.of_below hio him hb
    cases h with
    | immNil => exact .immNil _ _
    | imm _ _ _ b off cap vals h1 h2 h3 h4 h5 h6 => exact .imm _ _ _ b off cap vals h1 h2 (by simp) h4 h5 h6
  | row n k sz off len xs zs hm hH hl hex hsc hfr ih =>
    intro v h
    cases h with
    | rowNil _ _ _ h =>
      obtain rfl : zs = [] := List.eq_nil_of_length_eq_zero hl
      exact .immNil _ _
    | rowEmpty _ _ _ _ b o t h =>
      obtain rfl : zs = [] := List.eq_nil_of_length_eq_zero hl
      exact .imm sz [] false b o 0 (fun _ _ => undef) (Nat.le_refl _) (Nat.zero_le _) (by simp) (by simp) (by simp) (by simp)
    | row _ _ _ _ _ b N cap h h1 h2 h3 =>
      subst hl
      have key : ∀ (j : Nat) (z : AVal) (i : Nat) (d : AVal), zs[j]? = some z → z.cells[i]? = some d → d.scalar = true ∧ ∃ u, g'.im b (off * sz + j * sz + i) = some u ∧ VRel g' d u := by
        intro j z i d hz hd
        obtain ⟨x, hx, hlen⟩ := hex j z hz
        have hi : i < x.cells.length := by rw [← hlen]; exact lt_of_getElem?_some hd
        obtain ⟨c, hc⟩ := getElem?_some_of_lt hi
        obtain ⟨u, hu, hv⟩ := (hrow n k sz xs b N hm hH h (off + j) x hx).2 i c hc
        refine ⟨hsc j z x i c d hz hx hc hd, u, ?_, ih j z x i c d hz hx hc hd hv⟩
        rw [← hu]; congr 1; rw [Nat.add_mul]
      refine .imm sz zs false b (off * sz) cap (fun j i => ((g'.im b (off * sz + j * sz + i)).getD undef)) h1 ?_ (by simp) ?_ ?_ ?_
      · omega
      · intro j z hz
        obtain ⟨x, hx, hlen⟩ := hex j z hz
        rw [hlen, (hrow n k sz xs b N hm hH h _ x hx).1]
      · intro j z i d hz hd
        obtain ⟨hs, u, hu, _⟩ := key j z i d hz hd
        exact ⟨hs, by rw [hu]; rfl⟩
      · intro j z i d hz hd
        obtain ⟨_, u, hu, hv⟩ := key j z i d hz hd
        rw [hu]; exact hv
  | agg cs ds hl hs hf ih =>
    intro v h
    cases h with
    | agg _ cs' h1 h2 h3 =>
      refine .agg ds cs' (h1.trans hl.symm) (fun i d e => ?_) (fun i d e => ?_) <;>
        obtain ⟨c, hc⟩ := getElem?_some_of_lt (l := cs) (i := i) (by rw [← hl]; exact lt_of_getElem?_some e)
      · exact hs i c d hc e
      · exact ih i c d hc e (h3 i c hc)
  | tuple cs ds hl hf ih =>
    intro v h
    cases h with
    | tuple _ cs' h1 h3 =>
      refine .tuple ds cs' (h1.trans hl.symm) (fun i d e => ?_)
      obtain ⟨c, hc⟩ := getElem?_some_of_lt (l := cs) (i := i) (by rw [← hl]; exact lt_of_getElem?_some e)
      exact ih i c d hc e (h3 i c hc)
  | iface t a b hf ih =>
    intro v h
    cases h with
    | iface _ _ v' h => exact .iface t b v' (ih h)

/-- What an object holds names no object from m on. -/
def OBelow (m : Nat) : AObj → Prop
  | .cells x => ∀ (i : Nat) (c : AVal), x.cells[i]? = some c → ABelow m c
  | .row _ _ xs => ∀ (j : Nat) (x : AVal) (i : Nat) (c : AVal), xs[j]? = some x → x.cells[i]? = some c → ABelow m c
  | .map es => ∀ (i : Nat) (k v : AVal), es[i]? = some (k, v) → ABelow m k ∧ ABelow m v
  | .loop l => ∀ i, i < l.nt → ABelow m (l.tmps i)
  | .defd => True
  | .dead => True

theorem ORel.names {g : G} {w : World} {m : Nat} (hg : ∀ n k t, g.io n k = some t → n < m) {o : AObj} {t : Option Nat × Nat} (h : ORel g w o t) : OBelow m o := by
  obtain ⟨bk, N⟩ := t
  cases o with
  | cells cs =>
    cases bk with
    | none => exact h.elim
    | some b => obtain ⟨arr, t, _, _, h⟩ := h; exact fun i c e => (h i c e).2.names hg
  | row sz k xs =>
    cases bk with
    | none => obtain ⟨rfl, _⟩ := h; exact fun j x i c e => by simp at e
    | some b => obtain ⟨arr, t, _, _, _, h⟩ := h; exact fun j x i c e f => ((h j x e).2 i c f).2.names hg
  | map es =>
    cases bk with
    | none => exact h.elim
    | some b => obtain ⟨arr, t, _, _, h⟩ := h; exact fun i k v e => by obtain ⟨e', _, h1, h2⟩ := h i k v e; exact ⟨h1.names hg, h2.names hg⟩
  | loop l =>
    cases bk with
    | none => exact h.elim
    | some b => obtain ⟨r, _, _, _, h, _⟩ := h; exact fun i hi => (h.2 i hi).names hg
  | defd => trivial
  | dead => trivial

theorem ORel.of_below {g g' : G} {w : World} {m : Nat} (hio : ∀ n k t, g.io n k = some t → n < m → g'.io n k = some t) (him : ∀ b o v, g.im b o = some v → g'.im b o = some v)
    {o : AObj} {t : Option Nat × Nat} (h : ORel g w o t) (hb : OBelow m o) : ORel g' w o t := by
  obtain ⟨bk, N⟩ := t
  cases o with
  | cells cs =>
    cases bk with
    | none => exact h.elim
    | some b => obtain ⟨arr, t, h1, h2, h⟩ := h; exact ⟨arr, t, h1, h2, fun i c e => ⟨(h i c e).1, (h i c e).2.of_below hio him (hb i c e)⟩⟩
  | row sz k xs =>
    cases bk with
    | none => exact h
    | some b => obtain ⟨arr, t, h1, h2, h3, h⟩ := h; exact ⟨arr, t, h1, h2, h3, fun j x e => ⟨(h j x e).1, fun i c f => ⟨((h j x e).2 i c f).1, ((h j x e).2 i c f).2.of_below hio him (hb j x i c e f)⟩⟩⟩
  | map es =>
    cases bk with
    | none => exact h.elim
    | some b =>
      obtain ⟨arr, t, h1, h2, h⟩ := h
      refine ⟨arr, t, h1, h2, fun i k v e => ?_⟩
      obtain ⟨e', h3, h4, h5⟩ := h i k v e
      obtain ⟨b1, b2⟩ := hb i k v e
      exact ⟨e', h3, h4.of_below hio him b1, h5.of_below hio him b2⟩
  | loop l =>
    cases bk with
    | none => exact h.elim
    | some b => obtain ⟨r, h1, h2, h3, h5, h6⟩ := h; exact ⟨r, h1, h2, h3, ⟨h5.1, fun i hi => (h5.2 i hi).of_below hio him (hb i hi)⟩, h6⟩
  | defd => cases bk <;> exact h
  | dead => trivial

theorem ORel.mono {g g' : G} {w : World} (hg : g.le g') {o : AObj} {t : Option Nat × Nat} (h : ORel g w o t) : ORel g' w o t := by
  obtain ⟨bk, N⟩ := t
  cases o with
  | cells cs =>
    cases bk with
    | none => exact h.elim
    | some b => obtain ⟨arr, t, h1, h2, h⟩ := h; exact ⟨arr, t, h1, h2, fun i c e => ⟨(h i c e).1, (h i c e).2.mono hg⟩⟩
  | row sz k xs =>
    cases bk with
    | none => exact h
    | some b => obtain ⟨arr, t, h1, h2, h3, h⟩ := h; exact ⟨arr, t, h1, h2, h3, fun j x e => ⟨(h j x e).1, fun i c f => ⟨((h j x e).2 i c f).1, ((h j x e).2 i c f).2.mono hg⟩⟩⟩
  | map es =>
    cases bk with
    | none => exact h.elim
    | some b =>
      obtain ⟨arr, t, h1, h2, h⟩ := h
      refine ⟨arr, t, h1, h2, fun i k v e => ?_⟩
      obtain ⟨e', h3, h4, h5⟩ := h i k v e
      exact ⟨e', h3, h4.mono hg, h5.mono hg⟩
  | loop l =>
    cases bk with
    | none => exact h.elim
    | some b => obtain ⟨r, h1, h2, h3, h5, h6⟩ := h; exact ⟨r, h1, h2, h3, h5.mono hg, h6⟩
  | defd => cases bk <;> exact h
  | dead => trivial

open Classical in
/-- The ghost when the objects from m on are forgotten. -/
noncomputable def G.cut (g : G) (w : World) (H : AHeap) (m : Nat) : G where
  io n k := if n < m then g.io n k else none
  im b o := match g.im b o with
    | some v => some v
    | none => if ∃ n k sz xs N, m ≤ n ∧ H[n]? = some (.row sz k xs) ∧ g.io n k = some (some b, N) then w.cell? ⟨b, o, none⟩ else none

theorem G.cut_io {g : G} {w : World} {H : AHeap} {m : Nat} : ∀ n k t, g.io n k = some t → n < m → (g.cut w H m).io n k = some t := by
  intro n k t h hn
  simp [G.cut, hn, h]
theorem G.cut_im {g : G} {w : World} {H : AHeap} {m : Nat} : ∀ b o v, g.im b o = some v → (g.cut w H m).im b o = some v := by
  intro b o v h
  simp [G.cut, h]

theorem gen_take {H : AHeap} {m n : Nat} (hn : n < m) : AHeap.gen (H.take m) n = H.gen n := by
  unfold AHeap.gen
  rw [List.getElem?_take, if_pos hn]

theorem cut_inv {g : G} {w : World} {H : AHeap} {m : Nat} (hi : Inv g w H) (hm : m ≤ H.length) (hb : ∀ n k o t, n < m → g.io n k = some t → H[n]? = some o → o.gen = some k → OBelow m o) :
    Inv (g.cut w H m) w (H.take m) := by
  have hio : ∀ {n k t}, (g.cut w H m).io n k = some t → n < m ∧ g.io n k = some t := by
    intro n k t h
    simp only [G.cut] at h
    split at h
    · exact ⟨‹_›, h⟩
    · simp at h
  refine ⟨fun n k t h => ?_, fun n k t l h hl => ?_, fun n k t l h hl => ?_, fun n k o t h ho hg => ?_, fun n k b N h => ?_, fun n n' k l b N M h h' => hi.inj n n' k l b N M (hio h).2 (hio h').2, fun b o v h => ?_, fun n k b N o h hn => ?_⟩
  · rw [List.length_take]; have := hio h; omega
  · obtain ⟨h1, h2⟩ := hio h
    rw [gen_take h1] at hl
    obtain ⟨u, hu⟩ := hi.live n k t l h2 hl
    exact ⟨u, G.cut_io _ _ _ hu h1⟩
  · obtain ⟨h1, h2⟩ := hio h
    rw [gen_take h1] at hl
    exact hi.genle n k t l h2 hl
  · obtain ⟨h1, h2⟩ := hio h
    rw [List.getElem?_take, if_pos h1] at ho
    exact (hi.obj n k o t h2 ho hg).of_below G.cut_io G.cut_im (hb n k o t h1 h2 ho hg)
  · exact hi.lt n k b N (hio h).2
  · simp only [G.cut] at h
    split at h
    · rename_i v' hv; injection h with h; subst h; exact hi.imm b o _ hv
    · split at h
      · exact h
      · simp at h
  · obtain ⟨h1, h2⟩ := hio h
    rw [gen_take h1] at hn
    have hd := hi.disj n k b N o h2 hn
    simp only [G.cut, hd]
    split
    · rename_i hex
      obtain ⟨n', k', sz, xs, N', hn', hH, hio'⟩ := hex
      have := hi.inj n n' k k' b N N' h2 hio'
      omega
    · rfl

theorem cut_ext {g0 g : G} {w0 w : World} {H0 H : AHeap} (hi0 : Inv g0 w0 H0) (hx : Ext g0 w0 H0 g w H) : Ext g0 w0 H0 (g.cut w H H0.length) w (H.take H0.length) := by
  refine ⟨⟨fun n k t h => G.cut_io _ _ _ (hx.le.io n k t h) (hi0.dom n k t h), fun b o v h => G.cut_im _ _ _ (hx.le.im b o v h)⟩, hx.size, hx.os, hx.tape, hx.output, hx.frame, fun n k b N h => ?_, fun b o v h => ?_, ?_, fun n k t h hn => ?_⟩
  · simp only [G.cut] at h
    split at h
    · exact hx.newio n k b N h
    · simp at h
  · simp only [G.cut] at h
    split at h
    · rename_i v' hv; exact hx.newim b o v' hv |>.imp (fun e => by rw [e, h]) id
    · split at h
      · rename_i hex
        obtain ⟨n, k, sz, xs, N, _, _, hio⟩ := hex
        exact .inr (hx.newio n k b N hio)
      · simp at h
  · have := hx.len; rw [List.length_take]; omega
  · simp only [G.cut] at h
    rw [if_pos hn] at h
    exact hx.newname n k t h hn

theorem cell_of_heap {w : World} {b : Nat} {arr : Array Value} {t : TypeId} {fr : Nat × Nat} (h : w.heap[b]? = some (.cells arr t fr)) (i : Nat) : w.cell? ⟨b, i, none⟩ = arr[i]? := by
  simp [World.cell?, h]

theorem cut_rel {g : G} {w : World} {H : AHeap} {m : Nat} (hi : Inv g w H) {a a' : AVal} {v : Value} (hf : Frz m H a a') (hv : VRel g a v) : VRel (g.cut w H m) a' v := by
  refine Frz.rel (m := m) (H := H) G.cut_io G.cut_im (fun n k sz xs b N hm hH h j x hx => ?_) hf hv
  obtain ⟨arr, t, h1, h2, h3, h4⟩ := hi.obj n k _ _ h hH rfl
  refine ⟨(h4 j x hx).1, fun i c hc => ?_⟩
  have hg := hi.disj n k b N (j * sz + i) h (by simp [AHeap.gen, hH, AObj.gen])
  have hi' : i < sz := by rw [← (h4 j x hx).1]; exact lt_of_getElem?_some hc
  have hj : j < xs.length := lt_of_getElem?_some hx
  have hlt : j * sz + i < arr.size := by
    rw [h2]
    calc j * sz + i < j * sz + sz := by omega
      _ = (j + 1) * sz := by rw [Nat.add_mul, Nat.one_mul]
      _ ≤ N * sz := Nat.mul_le_mul_right _ (by omega)
  refine ⟨arr[j * sz + i], ?_, ?_⟩
  · simp only [G.cut, hg]
    rw [if_pos ⟨n, k, sz, xs, N, hm, hH, h⟩, cell_of_heap h1, Array.getElem?_eq_getElem hlt]
  · have := ((h4 j x hx).2 i c hc).2
    simpa [Array.getD, hlt] using this
end Go.Proofs.YtennhanlcbibaaaGreatDoor.Lb

/- Objects that take other names: what is not reached any more is forgotten. -/
namespace Go.Proofs.YtennhanlcbibaaaGreatDoor.Lb
open Go

/-- A value under new names: back tells which name a new one had. -/
inductive Ren (m : Nat) (back : Nat → Option Nat) : AVal → AVal → Prop
  | same (a : AVal) : ABelow m a → Ren m back a a
  | ptr (n n' g o : Nat) : back n' = some n → Ren m back (.ptr n g o) (.ptr n' g o)
  | rptr (n n' g sz j o : Nat) : back n' = some n → Ren m back (.rptr n g sz j o) (.rptr n' g sz j o)
  | row (n n' g sz o l : Nat) : back n' = some n → Ren m back (.row n g sz o l) (.row n' g sz o l)
  | map (n n' : Nat) : back n' = some n → Ren m back (.map n) (.map n')
  | brow (n n' sz o l : Nat) : back n' = some n → Ren m back (.brow n sz o l) (.brow n' sz o l)
  | fn (f : Fn) (a b a' b' : List AVal) : a'.length = a.length → b'.length = b.length → (∀ (i : Nat) (c d : AVal), a[i]? = some c → a'[i]? = some d → Ren m back c d) → (∀ (i : Nat) (c d : AVal), b[i]? = some c → b'[i]? = some d → Ren m back c d) → Ren m back (.fn f a b) (.fn f a' b')
  | iface (t : TypeId) (a b : AVal) : Ren m back a b → Ren m back (.iface t a) (.iface t b)
  | agg (cs ds : List AVal) : ds.length = cs.length → (∀ (i : Nat) (d : AVal), ds[i]? = some d → d.scalar = true) → (∀ (i : Nat) (c d : AVal), cs[i]? = some c → ds[i]? = some d → Ren m back c d) → Ren m back (.agg cs) (.agg ds)
  | tuple (cs ds : List AVal) : ds.length = cs.length → (∀ (i : Nat) (c d : AVal), cs[i]? = some c → ds[i]? = some d → Ren m back c d) → Ren m back (.tuple cs) (.tuple ds)

def G.ren (g : G) (back : Nat → Option Nat) : G := { io := fun n k => (back n).bind fun x => g.io x k, im := g.im }

theorem Ren.rel {g : G} {m : Nat} {back : Nat → Option Nat} (hb : ∀ n, n < m → back n = some n) {a a' : AVal} (hr : Ren m back a a') : ∀ {v : Value}, VRel g a v → VRel (g.ren back) a' v := by
  have io : ∀ {n n' k t}, back n' = some n → g.io n k = some t → (g.ren back).io n' k = some t := fun {n n' k t} h e => by simp [G.ren, h, e]
  induction hr with
  | same a h =>
    intro v hv
    exact hv.of_below (m := m) (fun n k t e hn => io (hb n hn) e) (fun b o v e => e) h
  | ptr n n' k o h =>
    intro v hv
    cases hv with | ptr _ _ _ b N e => exact .ptr _ _ _ b N (io h e)
  | rptr n n' k sz j o h =>
    intro v hv
    cases hv with | rptr _ _ _ _ _ b N e => exact .rptr _ _ _ _ _ b N (io h e)
  | row n n' k sz o l h =>
    intro v hv
    cases hv with
    | rowNil _ _ _ e => exact .rowNil _ _ _ (io h e)
    | rowEmpty _ _ _ _ b o t e => exact .rowEmpty _ _ _ _ b o t (io h e)
    | row _ _ _ _ _ b N cap e h1 h2 h3 => exact .row _ _ _ _ _ b N cap (io h e) h1 h2 h3
  | map n n' h =>
    intro v hv
    cases hv with | map _ b N e => exact .map _ b N (io h e)
  | brow n n' sz o l h =>
    intro v hv
    cases hv with
    | brow _ _ _ _ b N cap e h1 h2 => exact .brow _ _ _ _ b N cap (io h e) h1 h2
    | browE _ _ _ b o N e => exact .browE _ _ _ b o N (io h e)
  | fn f a b a' b' h1 h2 _ _ ih1 ih2 =>
    intro v hv
    cases hv with
    | fn _ _ _ fs cs k1 k2 k3 k4 =>
      refine .fn _ a' b' fs cs (k1.trans h1.symm) (k2.trans h2.symm) (fun i d e => ?_) (fun i d e => ?_)
      · obtain ⟨c, hc⟩ := getElem?_some_of_lt (l := a) (i := i) (by rw [← h1]; exact lt_of_getElem?_some e)
        exact ih1 i c d hc e (k3 i c hc)
      · obtain ⟨c, hc⟩ := getElem?_some_of_lt (l := b) (i := i) (by rw [← h2]; exact lt_of_getElem?_some e)
        exact ih2 i c d hc e (k4 i c hc)
  | iface t a b _ ih =>
    intro v hv
    cases hv with | iface _ _ v' h => exact .iface _ _ _ (ih h)
  | agg cs ds h1 h2 _ ih =>
    intro v hv
    cases hv with
    | agg _ cs' k1 k2 k3 =>
      refine .agg ds cs' (k1.trans h1.symm) h2 (fun i d e => ?_)
      obtain ⟨c, hc⟩ := getElem?_some_of_lt (l := cs) (i := i) (by rw [← h1]; exact lt_of_getElem?_some e)
      exact ih i c d hc e (k3 i c hc)
  | tuple cs ds h1 _ ih =>
    intro v hv
    cases hv with
    | tuple _ cs' k1 k3 =>
      refine .tuple ds cs' (k1.trans h1.symm) (fun i d e => ?_)
      obtain ⟨c, hc⟩ := getElem?_some_of_lt (l := cs) (i := i) (by rw [← h1]; exact lt_of_getElem?_some e)
      exact ih i c d hc e (k3 i c hc)

/-- Cells under new names. -/
def RenC (m : Nat) (back : Nat → Option Nat) (cs ds : List AVal) : Prop := ds.length = cs.length ∧ (∀ (i : Nat) (d : AVal), ds[i]? = some d → d.scalar = true) ∧ ∀ (i : Nat) (c d : AVal), cs[i]? = some c → ds[i]? = some d → Ren m back c d

/-- An object under new names. -/
inductive RenO (m : Nat) (back : Nat → Option Nat) : AObj → AObj → Prop
  | same (o : AObj) : OBelow m o → RenO m back o o
  | cells (x y : AVal) : RenC m back x.cells y.cells → RenO m back (.cells x) (.cells y)
  | row (sz k : Nat) (xs ys : List AVal) : ys.length = xs.length → (∀ (j : Nat) (x y : AVal), xs[j]? = some x → ys[j]? = some y → RenC m back x.cells y.cells) → RenO m back (.row sz k xs) (.row sz k ys)
  | map (es fs : List (AVal × AVal)) : fs.length = es.length → (∀ (i : Nat) (k v k' v' : AVal), es[i]? = some (k, v) → fs[i]? = some (k', v') → Ren m back k k' ∧ Ren m back v v') → RenO m back (.map es) (.map fs)

theorem RenO.gen {m : Nat} {back : Nat → Option Nat} {o o' : AObj} (h : RenO m back o o') : o'.gen = o.gen := by
  cases h <;> rfl

theorem RenO.rel {g : G} {w : World} {m : Nat} {back : Nat → Option Nat} (hb : ∀ n, n < m → back n = some n) {o o' : AObj} {t : Option Nat × Nat} (hr : RenO m back o o') (h : ORel g w o t) : ORel (g.ren back) w o' t := by
  have io : ∀ {n n' k t}, back n' = some n → g.io n k = some t → (g.ren back).io n' k = some t := fun {n n' k t} h e => by simp [G.ren, h, e]
  cases hr with
  | same _ ho => exact h.of_below (m := m) (fun n k t e hn => io (hb n hn) e) (fun b o v e => e) ho
  | cells x y hc =>
    obtain ⟨b, N⟩ := t
    cases b with
    | none => exact h.elim
    | some b =>
      obtain ⟨arr, t, h1, h2, h3⟩ := h
      refine ⟨arr, t, h1, h2.trans hc.1.symm, fun i d e => ⟨hc.2.1 i d e, ?_⟩⟩
      obtain ⟨c, hcc⟩ := getElem?_some_of_lt (l := x.cells) (i := i) (by rw [← hc.1]; exact lt_of_getElem?_some e)
      exact (hc.2.2 i c d hcc e).rel hb (h3 i c hcc).2
  | row sz k xs ys hl hc =>
    obtain ⟨b, N⟩ := t
    cases b with
    | none =>
      obtain ⟨rfl, rfl⟩ := h
      exact ⟨List.eq_nil_of_length_eq_zero hl, rfl⟩
    | some b =>
      obtain ⟨arr, t, h1, h2, h3, h4⟩ := h
      refine ⟨arr, t, h1, h2, by rw [hl]; exact h3, fun j y e => ?_⟩
      obtain ⟨x, hx⟩ := getElem?_some_of_lt (l := xs) (i := j) (by rw [← hl]; exact lt_of_getElem?_some e)
      obtain ⟨k1, k2, k3⟩ := hc j x y hx e
      obtain ⟨k4, k5⟩ := h4 j x hx
      refine ⟨k1.trans k4, fun i d ed => ⟨k2 i d ed, ?_⟩⟩
      obtain ⟨c, hcc⟩ := getElem?_some_of_lt (l := x.cells) (i := i) (by rw [← k1]; exact lt_of_getElem?_some ed)
      exact (k3 i c d hcc ed).rel hb (k5 i c hcc).2
  | map es fs hl hc =>
    obtain ⟨b, N⟩ := t
    cases b with
    | none => exact h.elim
    | some b =>
      obtain ⟨ents, clock, h1, h2, h3⟩ := h
      refine ⟨ents, clock, h1, h2.trans hl.symm, fun i k' v' e => ?_⟩
      obtain ⟨⟨k, v⟩, hkv⟩ := getElem?_some_of_lt (l := es) (i := i) (by rw [← hl]; exact lt_of_getElem?_some e)
      obtain ⟨en, q1, q2, q3⟩ := h3 i k v hkv
      obtain ⟨r1, r2⟩ := hc i k v k' v' hkv e
      exact ⟨en, q1, r1.rel hb q2, r2.rel hb q3⟩

theorem ren_inv {g : G} {w : World} {H1 H2 : AHeap} {m : Nat} {back : Nat → Option Nat} (hb : ∀ n, n < m → back n = some n) (hinj : ∀ n n' x, back n = some x → back n' = some x → n = n') (hdom : ∀ n' n, back n' = some n → n' < H2.length)
    (hobj : ∀ n' n k t o, back n' = some n → g.io n k = some t → H1[n]? = some o → ∃ o', H2[n']? = some o' ∧ RenO m back o o') (hi : Inv g w H1) : Inv (g.ren back) w H2 := by
  have get : ∀ {n' k t}, (g.ren back).io n' k = some t → ∃ n, back n' = some n ∧ g.io n k = some t := fun {n' k t} e => by
    simp only [G.ren] at e
    obtain ⟨n, h1, h2⟩ := Option.bind_eq_some_iff.1 e
    exact ⟨n, h1, h2⟩
  have io : ∀ {n n' k t}, back n' = some n → g.io n k = some t → (g.ren back).io n' k = some t := fun {n n' k t} h e => by simp [G.ren, h, e]
  have gen : ∀ {n n' k t}, back n' = some n → g.io n k = some t → AHeap.gen H2 n' = AHeap.gen H1 n := fun {n n' k t} h e => by
    obtain ⟨o, ho⟩ := getElem?_some_of_lt (hi.dom n k t e)
    obtain ⟨o', ho', hr⟩ := hobj n' n k t o h e ho
    simp [AHeap.gen, ho, ho', hr.gen]
  refine ⟨fun n k t e => ?_, fun n k t l e hl => ?_, fun n k t l e hl => ?_, fun n k o t e ho hg => ?_, fun n k b N e => ?_, fun n n' k l b N M e e' => ?_, hi.imm, fun n k b N o e hg => ?_⟩
  · obtain ⟨x, h1, _⟩ := get e; exact hdom _ _ h1
  · obtain ⟨x, h1, h2⟩ := get e
    rw [gen h1 h2] at hl
    obtain ⟨u, hu⟩ := hi.live x k t l h2 hl
    exact ⟨u, io h1 hu⟩
  · obtain ⟨x, h1, h2⟩ := get e
    rw [gen h1 h2] at hl
    exact hi.genle x k t l h2 hl
  · obtain ⟨x, h1, h2⟩ := get e
    obtain ⟨o0, ho0⟩ := getElem?_some_of_lt (hi.dom x k t h2)
    obtain ⟨o', ho', hr⟩ := hobj n x k t o0 h1 h2 ho0
    rw [ho] at ho'; injection ho' with ho'; subst ho'
    exact hr.rel hb (hi.obj x k o0 t h2 ho0 (by rw [← hr.gen]; exact hg))
  · obtain ⟨x, h1, h2⟩ := get e; exact hi.lt x k b N h2
  · obtain ⟨x, h1, h2⟩ := get e
    obtain ⟨y, h3, h4⟩ := get e'
    have := hi.inj x y k l b N M h2 h4
    subst this
    exact hinj _ _ _ h1 h3
  · obtain ⟨x, h1, h2⟩ := get e
    rw [gen h1 h2] at hg
    exact hi.disj x k b N o h2 hg

theorem ren_ext {g0 g : G} {w0 w : World} {H0 H1 H2 : AHeap} {back : Nat → Option Nat} (hb : ∀ n, n < H0.length → back n = some n) (hl : H0.length ≤ H2.length) (hi0 : Inv g0 w0 H0) (hx : Ext g0 w0 H0 g w H1) : Ext g0 w0 H0 (g.ren back) w H2 := by
  have get : ∀ {n' k t}, (g.ren back).io n' k = some t → ∃ n, back n' = some n ∧ g.io n k = some t := fun {n' k t} e => by
    simp only [G.ren] at e
    obtain ⟨n, h1, h2⟩ := Option.bind_eq_some_iff.1 e
    exact ⟨n, h1, h2⟩
  refine ⟨⟨fun n k t e => ?_, fun b o v e => hx.le.im b o v e⟩, hx.size, hx.os, hx.tape, hx.output, hx.frame, fun n k b N e => ?_, hx.newim, hl, fun n k t e hn => ?_⟩
  · have := hx.le.io n k t e
    simp [G.ren, hb n (hi0.dom n k t e), this]
  · obtain ⟨x, h1, h2⟩ := get e; exact hx.newio x k b N h2
  · obtain ⟨x, h1, h2⟩ := get e
    rw [hb n hn] at h1; injection h1 with h1; subst h1
    exact hx.newname n k t h2 hn
end Go.Proofs.YtennhanlcbibaaaGreatDoor.Lb

