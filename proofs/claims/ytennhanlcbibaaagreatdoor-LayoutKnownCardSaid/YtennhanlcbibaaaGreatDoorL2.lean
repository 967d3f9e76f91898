/- What a run of the program in an abstract memory says of the machine: part 2. -/
import Derived.Test.YtennhanlcbibaaaGreatDoorL1
/- Memory is turned: an object written, a block laid, a draw. Functions and function values. -/
namespace Go.Proofs.YtennhanlcbibaaaGreatDoor.Lb
open Go

theorem ORel.same_block {g : G} {w w' : World} {o : AObj} {t : Option Nat × Nat} (h : ORel g w o t) (hb : ∀ b, t.1 = some b → w'.heap[b]? = w.heap[b]?) : ORel g w' o t := by
  obtain ⟨bk, N⟩ := t
  cases bk with
  | none => cases o <;> exact h
  | some b =>
    have hb := hb b rfl
    cases o <;> simp only [ORel] at h ⊢ <;> first | trivial | (rw [hb]; exact h)

theorem gen_set_ne {H : AHeap} {n m : Nat} {o : AObj} (h : n ≠ m) : AHeap.gen (H.set n o) m = H.gen m := by
  unfold AHeap.gen
  rw [List.getElem?_set_ne h]

theorem gen_set_self {H : AHeap} {n : Nat} {o : AObj} (h : n < H.length) : AHeap.gen (H.set n o) n = o.gen := by
  unfold AHeap.gen
  rw [List.getElem?_set_self h]; rfl

/-- One live object is written (or has died); the others lie as they lay. -/
theorem inv_update {g : G} {w w' : World} {H : AHeap} {n k b N : Nat} {o : AObj} (hi : Inv g w H) (hio : g.io n k = some (some b, N)) (hl : H.gen n = some k) (hg : o.gen = some k ∨ o.gen = none)
    (hheap : ∀ c, c ≠ b → w'.heap[c]? = w.heap[c]?) (hsz : w'.heap.size = w.heap.size) (hnew : o.gen = some k → ORel g w' o (some b, N)) : Inv g w' (H.set n o) := by
  have hn := hi.dom n k _ hio
  refine ⟨fun m l t h => by rw [List.length_set]; exact hi.dom m l t h, fun m l t l' h hl' => ?_, fun m l t l' h hl' => ?_, fun m l o' t h ho hg' => ?_, fun m l c M h => by rw [hsz]; exact hi.lt m l c M h, fun m m' l l' c M M' h h' => hi.inj m m' l l' c M M' h h', fun c x v h => ?_, fun m l c M x h hm => ?_⟩
  · by_cases e : n = m
    · subst e
      rw [gen_set_self hn] at hl'
      rcases hg with hg | hg
      · rw [hg] at hl'; injection hl' with hl'; subst hl'; exact ⟨_, hio⟩
      · rw [hg] at hl'; cases hl'
    · rw [gen_set_ne e] at hl'; exact hi.live m l t l' h hl'
  · by_cases e : n = m
    · subst e
      rw [gen_set_self hn] at hl'
      rcases hg with hg | hg
      · rw [hg] at hl'; injection hl' with hl'; subst hl'; exact hi.genle n l t k h hl
      · rw [hg] at hl'; cases hl'
    · rw [gen_set_ne e] at hl'; exact hi.genle m l t l' h hl'
  · by_cases e : n = m
    · subst e
      rw [List.getElem?_set_self hn] at ho
      injection ho with ho
      subst ho
      rcases hg with hg | hg
      · rw [hg] at hg'; injection hg' with hg'; subst hg'
        rw [hio] at h; injection h with h; subst h
        exact hnew hg
      · rw [hg] at hg'; cases hg'
    · rw [List.getElem?_set_ne e] at ho
      have := hi.obj m l o' t h ho hg'
      refine this.same_block fun c hc => hheap c ?_
      intro hcb
      subst hcb
      obtain ⟨bk, M⟩ := t
      simp only at hc
      subst hc
      exact e (hi.inj n m k l c N M hio h)
  · have hc := hi.imm c x v h
    have hne : c ≠ b := by
      intro e; subst e
      rw [hi.disj n k c N x hio hl] at h; cases h
    rw [World.cell?_of_block (w := w) (hheap c hne)]; exact hc
  · have g1 : H.gen m = some l := by
      by_cases e : n = m
      · subst e
        rw [gen_set_self hn] at hm
        rcases hg with hg | hg
        · rw [hg] at hm; injection hm with hm; subst hm; exact hl
        · rw [hg] at hm; cases hm
      · rw [gen_set_ne e] at hm; exact hm
    exact hi.disj m l c M x h g1

theorem ext_update {g : G} {w w' : World} {H H' : AHeap} {n k b N : Nat} (hio : g.io n k = some (some b, N)) (hheap : ∀ c, c ≠ b → w'.heap[c]? = w.heap[c]?) (hsz : w'.heap.size = w.heap.size)
    (hos : w'.os = w.os) (htape : w'.tape = w.tape) (hout : w'.output = w.output) (hlen : H'.length = H.length) : Ext g w H g w' H' :=
  ⟨.refl g, by omega, hos, htape, hout, fun c hc hn => hheap c (fun e => by subst e; exact hn n k N hio), fun m l c M h => .inr ⟨m, l, M, h⟩, fun _ _ _ h => .inl h, by omega, fun m l t h _ => ⟨l, t, h⟩⟩

def G.add (g : G) (n k : Nat) (t : Option Nat × Nat) : G := { g with io := fun m l => if m = n ∧ l = k then some t else g.io m l }

theorem G.le_add {g : G} {n k : Nat} {t : Option Nat × Nat} (h : g.io n k = none) : g.le (g.add n k t) :=
  ⟨fun m l u e => by
    simp only [G.add]
    split
    · rename_i h'; obtain ⟨rfl, rfl⟩ := h'; rw [h] at e; cases e
    · exact e, fun _ _ _ e => e⟩

theorem G.add_self {g : G} {n k : Nat} {t : Option Nat × Nat} : (g.add n k t).io n k = some t := by simp [G.add]

theorem gen_append {H : AHeap} {o : AObj} {n l : Nat} (h : AHeap.gen (H ++ [o]) n = some l) : (n < H.length ∧ H.gen n = some l) ∨ (n = H.length ∧ o.gen = some l) := by
  unfold AHeap.gen at *
  by_cases e : n < H.length
  · rw [List.getElem?_append_left e] at h; exact .inl ⟨e, h⟩
  · rw [List.getElem?_append_right (by omega)] at h
    rcases Nat.eq_zero_or_pos (n - H.length) with h0 | h0
    · rw [h0] at h; exact .inr ⟨by omega, by simpa using h⟩
    · obtain ⟨m, hm⟩ : ∃ m, n - H.length = m + 1 := ⟨n - H.length - 1, by omega⟩
      rw [hm] at h; simp at h

/-- A new object, in a new block. -/
theorem inv_alloc {g : G} {w : World} {H : AHeap} {o : AObj} {ob : Obj} {k N : Nat} (hi : Inv g w H) (hg : o.gen = some k) (hnew : ORel (g.add H.length k (some w.heap.size, N)) (w.alloc ob) o (some w.heap.size, N)) :
    Inv (g.add H.length k (some w.heap.size, N)) (w.alloc ob) (H ++ [o]) ∧ Ext g w H (g.add H.length k (some w.heap.size, N)) (w.alloc ob) (H ++ [o]) := by
  have hno : ∀ l t, g.io H.length l = some t → False := fun l t e => by have := hi.dom _ _ _ e; omega
  have hle : g.le (g.add H.length k (some w.heap.size, N)) := G.le_add (by
    cases e : g.io H.length k with
    | none => rfl
    | some t => exact (hno _ _ e).elim)
  have hio : ∀ {m l t}, (g.add H.length k (some w.heap.size, N)).io m l = some t → (m = H.length ∧ l = k ∧ t = (some w.heap.size, N)) ∨ (m < H.length ∧ g.io m l = some t) := by
    intro m l t h
    simp only [G.add] at h
    split at h
    · rename_i e; injection h with h; exact .inl ⟨e.1, e.2, h.symm⟩
    · exact .inr ⟨hi.dom _ _ _ h, h⟩
  have hsame : ∀ c, c < w.heap.size → (w.alloc ob).heap[c]? = w.heap[c]? := fun c hc => by
    show (w.heap.push ob)[c]? = _
    rw [Array.getElem?_push, if_neg (by omega)]
  refine ⟨⟨fun m l t h => ?_, fun m l t l' h hl => ?_, fun m l t l' h hl => ?_, fun m l o' t h ho hg' => ?_, fun m l c M h => ?_, fun m m' l l' c M M' h h' => ?_, fun c x v h => ?_, fun m l c M x h hm => ?_⟩,
    ⟨hle, by simp, rfl, rfl, rfl, fun c hc _ => hsame c hc, fun m l c M h => ?_, fun _ _ _ h => .inl h, by simp, fun m l t h hm => ?_⟩⟩
  · simp only [List.length_append, List.length_cons, List.length_nil]; rcases hio h with ⟨e, _⟩ | ⟨e, _⟩ <;> omega
  · rcases hio h with ⟨e, _⟩ | ⟨e, h2⟩
    · subst e
      rcases gen_append hl with ⟨h1, _⟩ | ⟨_, h1⟩
      · omega
      · rw [hg] at h1; injection h1 with h1; subst h1; exact ⟨_, G.add_self⟩
    · rcases gen_append hl with ⟨_, h1⟩ | ⟨h1, _⟩
      · obtain ⟨u, hu⟩ := hi.live m l t l' h2 h1; exact ⟨u, hle.io _ _ _ hu⟩
      · omega
  · rcases hio h with ⟨e, e2, _⟩ | ⟨e, h2⟩
    · subst e
      rcases gen_append hl with ⟨h1, _⟩ | ⟨_, h1⟩
      · omega
      · rw [hg] at h1; injection h1 with h1; omega
    · rcases gen_append hl with ⟨_, h1⟩ | ⟨h1, _⟩
      · exact hi.genle m l t l' h2 h1
      · omega
  · rcases hio h with ⟨e1, e2, e3⟩ | ⟨e, h2⟩
    · subst e1 e2 e3
      rw [List.getElem?_append_right (by omega)] at ho
      simp at ho
      subst ho
      exact hnew
    · rw [List.getElem?_append_left e] at ho
      refine ((hi.obj m l o' t h2 ho hg').mono hle).same_block fun c hc => hsame c ?_
      obtain ⟨bk, M⟩ := t
      simp only at hc
      subst hc
      exact hi.lt m l c M h2
  · rw [World.size_alloc]
    rcases hio h with ⟨_, _, e3⟩ | ⟨_, h2⟩
    · injection e3 with e3 _; injection e3 with e3; omega
    · have := hi.lt m l c M h2; omega
  · rcases hio h with ⟨e1, _, e3⟩ | ⟨e, h2⟩ <;> rcases hio h' with ⟨e1', _, e3'⟩ | ⟨e', h2'⟩
    · omega
    · injection e3 with e3 _; injection e3 with e3
      have := hi.lt _ _ _ _ h2'; omega
    · injection e3' with e3' _; injection e3' with e3'
      have := hi.lt _ _ _ _ h2; omega
    · exact hi.inj m m' l l' c M M' h2 h2'
  · have hc := hi.imm c x v h
    rw [World.cell?_of_block (w := w) (hsame c (World.block_lt_of_cell? w _ hc))]; exact hc
  · rcases hio h with ⟨_, _, e3⟩ | ⟨e, h2⟩
    · injection e3 with e3 _; injection e3 with e3
      cases hx : (g.add H.length k (some w.heap.size, N)).im c x with
      | none => rfl
      | some v => have := World.block_lt_of_cell? w _ (hi.imm c x v hx); simp at this; omega
    · rcases gen_append hm with ⟨_, h1⟩ | ⟨h1, _⟩
      · exact hi.disj m l c M x h2 h1
      · omega
  · rcases hio h with ⟨_, _, e3⟩ | ⟨e, h2⟩
    · injection e3 with e3 _; injection e3 with e3; exact .inl (by omega)
    · exact .inr ⟨m, l, M, h2⟩
  · rcases hio h with ⟨e1, _⟩ | ⟨e, h2⟩
    · omega
    · exact ⟨l, t, h2⟩

/-- A draw. -/
theorem inv_drawn {g : G} {w w' : World} {H : AHeap} (hi : Inv g w H) (hh : w'.heap = w.heap) : Inv g w' H :=
  ⟨hi.dom, hi.live, hi.genle, fun n k o t h ho hg => (hi.obj n k o t h ho hg).same_block (fun b _ => by rw [hh]), fun n k b N h => by rw [hh]; exact hi.lt n k b N h, hi.inj, fun b o v h => by
    have := hi.imm b o v h
    rw [World.cell?_of_block (w := w) (by rw [hh])]; exact this, hi.disj⟩
theorem ext_drawn {g : G} {w w' : World} {H : AHeap} (hh : w'.heap = w.heap) (ho : w'.os = w.os) (ht : w'.tape = w.tape) (hp : w'.output = w.output) : Ext g w H g w' H :=
  ⟨.refl g, by rw [hh]; exact Nat.le_refl _, ho, ht, hp, fun c _ _ => by rw [hh], fun m l c M h => .inr ⟨m, l, M, h⟩, fun _ _ _ h => .inl h, Nat.le_refl _, fun m l t h _ => ⟨l, t, h⟩⟩

/-! ### Functions -/
/-- A call of function f comes back with v. -/
def FnS (P : Program) (f : FuncId) (args : List AVal) (H : AHeap) (v : AVal) (H' : AHeap) : Prop :=
  ∀ (g : G) (w : World) (vs : Array Value), Inv g w H → ARel g args vs → ∀ (cs : List Frame), ∃ g' v' w' fr, Inv g' w' H' ∧ Ext g w H g' w' H' ∧ VRel g' v v' ∧
    Steps P (lone (Frame.enter P f vs .normal) cs w) (lone fr cs w') ∧ fr.fn = f ∧ fr.leaving P w' (.returned v')

def nextFrame (P : Program) : Next → Option Frame
  | .enter f as => some (Frame.enter P f as .normal)
  | .round l f t a b => some (Frame.round l f t a b .normal)
  | _ => none

/-- A call of a function value comes back with v. -/
def InvS (P : Program) (fv : AVal) (args : List AVal) (H : AHeap) (v : AVal) (H' : AHeap) : Prop :=
  ∀ (g : G) (w : World) (fv' : Value) (vs : Array Value), Inv g w H → VRel g fv fv' → ARel g args vs → ∀ (c : Frame) (cs : List Frame), ∃ nx fr g' v' w',
    (Deferred.ofValue fv' vs >>= fun d => invoke d.target d.args).run P w = .ok nx w ∧ nextFrame P nx = some fr ∧ Inv g' w' H' ∧ Ext g w H g' w' H' ∧ VRel g' v v' ∧
    Steps P (lone fr (c :: cs) w) (lone (c.finish v') cs w')

/-- A function with a body of its own. -/
def okFn (P : Program) (f : FuncId) : Bool :=
  match P.funcs[f]? with
  | some fn => fn.body.isSome && fn.name != "runtime.NumGoroutine"
  | none => false

theorem run_callFunc {P : Program} {f : FuncId} (h : okFn P f = true) (args : Array Value) (w : World) : (callFunc f args).run P w = .ok (.enter f args) w := by
  unfold okFn at h
  split at h
  · rename_i fn hf
    simp only [Bool.and_eq_true, bne_iff_ne] at h
    obtain ⟨h1, h2⟩ := h
    obtain ⟨c, hc⟩ := Option.isSome_iff_exists.1 h1
    simp [callFunc, hf, hc, h2]
  · cases h

theorem ARel.append {g : G} {as bs : List AVal} {vs ws : Array Value} (h : ARel g as vs) (k : ARel g bs ws) : ARel g (as ++ bs) (vs ++ ws) := by
  refine ⟨by simp [h.1, k.1], fun i c e => ?_⟩
  by_cases hi : i < as.length
  · rw [List.getElem?_append_left hi] at e
    have := h.2 i c e
    have hs : i < vs.size := by rw [h.1]; exact hi
    simpa [Array.getD, hs, Array.getElem_append_left hs, Nat.lt_add_right _ hs] using this
  · rw [List.getElem?_append_right (by omega)] at e
    have := k.2 _ c e
    have hj := lt_of_getElem?_some e
    have hs : ¬ i < vs.size := by rw [h.1]; exact hi
    have hs2 : i - vs.size < ws.size := by rw [h.1, k.1]; exact hj
    have hs3 : i < vs.size + ws.size := by omega
    rw [← h.1] at this
    simpa [Array.getD, hs2, hs3, Array.getElem_append_right (Nat.le_of_not_lt hs)] using this

theorem inv_of_fn {P : Program} {f : FuncId} {first cap args : List AVal} {H : AHeap} {v : AVal} {H' : AHeap} (hf : okFn P f = true) (h : FnS P f (first ++ args ++ cap) H v H') : InvS P (.fn (.func f) first cap) args H v H' := by
  intro g w fv' vs hi hfv ha c cs
  cases hfv with
  | fn _ _ _ first' cap' h1 h2 h3 h4 =>
    obtain ⟨g', v', w', fr, i', x', r', s', hfn, hl⟩ := h g w (first' ++ vs ++ cap') hi (ARel.append (ARel.append ⟨h1, h3⟩ ha) ⟨h2, h4⟩) (c :: cs)
    refine ⟨.enter f (first' ++ vs ++ cap'), Frame.enter P f (first' ++ vs ++ cap') .normal, g', v', w', ?_, rfl, i', x', r', s'.trans (.one (step_leave_returned hl))⟩
    simp [Deferred.ofValue, invoke, run_callFunc hf]

/-- What a body leaves, and what of it the call tells. -/
def Fin (H : AHeap) (v0 : AVal) (H1 : AHeap) (v : AVal) (H2 : AHeap) : Prop :=
  (v = v0 ∧ H2 = H1) ∨ (H2 = H1.take H.length ∧ Frz H.length H1 v0 v ∧ ∀ n o, n < H.length → H1[n]? = some o → H[n]? = some o ∨ OBelow H.length o) ∨
  ∃ back : Nat → Option Nat, (∀ n, n < H.length → back n = some n) ∧ (∀ n n' x, back n = some x → back n' = some x → n = n') ∧ (∀ n' n, back n' = some n → n' < H2.length) ∧
    (∀ n' n o, back n' = some n → H1[n]? = some o → ∃ o', H2[n']? = some o' ∧ (RenO H.length back o o' ∨ (o' = o ∧ n < H.length ∧ H[n]? = some o))) ∧ H.length ≤ H2.length ∧ Ren H.length back v0 v

theorem fin_of {g0 g : G} {w0 w : World} {H H1 H2 : AHeap} {v0 v : AVal} {u : Value} (hf : Fin H v0 H1 v H2) (hi0 : Inv g0 w0 H) (hi : Inv g w H1) (hx : Ext g0 w0 H g w H1) (hv : VRel g v0 u) :
    ∃ g', Inv g' w H2 ∧ Ext g0 w0 H g' w H2 ∧ VRel g' v u := by
  rcases hf with ⟨rfl, rfl⟩ | ⟨rfl, hf, hob⟩ | ⟨back, hb, hinj, hdom, hobj, hl, hr⟩
  · exact ⟨g, hi, hx, hv⟩
  · refine ⟨g.cut w H1 H.length, cut_inv hi hx.len ?_, cut_ext hi0 hx, cut_rel hi hf hv⟩
    intro n k o t hn h ho hg
    rcases hob n o hn ho with h1 | h1
    · obtain ⟨l, u, h2⟩ := hx.newname n k t h hn
      obtain ⟨u', h3⟩ := hi0.live n l u k h2 (by simp [AHeap.gen, h1, hg])
      exact (hi0.obj n k o u' h3 h1 hg).names hi0.dom
    · exact h1
  · refine ⟨g.ren back, ren_inv (m := H.length) hb hinj hdom (fun n' n k t o h e ho => ?_) hi, ren_ext hb hl hi0 hx, hr.rel hb hv⟩
    obtain ⟨o', ho', h1 | ⟨rfl, hn, h1⟩⟩ := hobj n' n o h ho
    · exact ⟨o', ho', h1⟩
    · refine ⟨o', ho', .same _ ?_⟩
      cases hg : o'.gen with
      | none => cases o' <;> first | trivial | (cases hg)
      | some l =>
        obtain ⟨l', u, h2⟩ := hx.newname n k t e hn
        obtain ⟨u', h3⟩ := hi0.live n l' u l h2 (by simp [AHeap.gen, h1, hg])
        exact (hi0.obj n l o' u' h3 h1 hg).names hi0.dom

/-- Objects that die. -/
def killAll : List Nat → AHeap → AHeap
  | [], H => H
  | n :: D, H => killAll D (H.set n .dead)

/-- The marks of a frame's loops, all different, all there. -/
def Marks (D : List Nat) (H : AHeap) : Prop := D.Nodup ∧ ∀ n ∈ D, H[n]? = some .defd

theorem unwind_marks {P : Program} {b : Frame} {cs : List Frame} {a : Act} {k : List Item} : ∀ (D : List Nat) (ds : List Deferred) (g : G) (w : World) (H : AHeap), Inv g w H → DRel g D ds → Marks D H →
    ∃ w', Inv g w' (killAll D H) ∧ Ext g w H g w' (killAll D H) ∧ Steps P (lone { on b a k with mode := .returning, defers := ds } cs w) (lone { on b a k with mode := .returning, defers := [] } cs w')
  | [], ds, g, w, H, hi, hd, hm => by
    obtain rfl : ds = [] := List.eq_nil_of_length_eq_zero hd.1
    exact ⟨w, hi, .refl g w H, .refl _ _⟩
  | n :: D, ds, g, w, H, hi, hd, hm => by
    obtain ⟨d, ds, rfl⟩ : ∃ d e, ds = d :: e := by
      cases ds with
      | nil => have := hd.1; simp at this
      | cons d e => exact ⟨d, e, rfl⟩
    obtain ⟨c, N, hio, hds⟩ := hd.2 0 n rfl
    simp at hds
    subst hds
    have hH := hm.2 n (by simp)
    have hgen : H.gen n = some 0 := by simp [AHeap.gen, hH, AObj.gen]
    have hob : w.heap[c]? = some (.deferred (some [])) := hi.obj n 0 _ _ hio hH rfl
    have hlt := hi.lt n 0 c N hio
    have hne : ∀ x, x ≠ c → ({ w with heap := w.heap.setIfInBounds c (.deferred none) } : World).heap[x]? = w.heap[x]? := fun x hx => by
      show (w.heap.setIfInBounds c _)[x]? = _
      rw [Array.getElem?_setIfInBounds_ne (fun e => hx e.symm)]
    have hi2 : Inv g { w with heap := w.heap.setIfInBounds c (.deferred none) } (H.set n .dead) :=
      inv_update hi hio hgen (.inr rfl) hne (by simp) (fun h => by cases h)
    have hx2 : Ext g w H g { w with heap := w.heap.setIfInBounds c (.deferred none) } (H.set n .dead) := ext_update hio hne (by simp) rfl rfl rfl (by simp)
    have hnd := List.nodup_cons.1 hm.1
    obtain ⟨w', i3, x3, s3⟩ := unwind_marks (P := P) (b := b) (cs := cs) (a := a) (k := k) D ds g _ _ hi2 ⟨by have := hd.1; simpa using this, fun i m e => by
        obtain ⟨c', N', h1, h2⟩ := hd.2 (i + 1) m (by simpa using e); exact ⟨c', N', h1, by simpa using h2⟩⟩ ⟨hnd.2, fun m hm' => by
        rw [List.getElem?_set_ne (fun e => hnd.1 (by rw [e]; exact hm'))]; exact hm.2 m (by simp [hm'])⟩
    refine ⟨w', i3, hx2.trans x3, .head ?_ s3⟩
    refine step_lone_go ?_
    simp [stepG, unwind, on, Instr.takeDeferred, getObj, setObj, Sem.run, hob, Sem.runT_eq]

/-- What a function hands back. -/
def RetS (P : Program) (nt : Nat) (fn : Func) (T : Nat → AVal) (H : AHeap) (v : AVal) : Prop :=
  ∀ (g : G) (tm : Array Value) (w : World), Inv g w H → TRel g nt T tm → ∃ v', (results fn tm).run P w = .ok v' w ∧ VRel g v v'

def argT (args : List AVal) : Nat → AVal := fun i => (args[i]?).getD .any

theorem argT_rel {g : G} {args : List AVal} {vs : Array Value} (h : ARel g args vs) {nt : Nat} (hn : args.length ≤ nt) : TRel g nt (argT args) (vs ++ Array.replicate (nt - vs.size) undef) := by
  refine ⟨by simp [h.1]; omega, fun i hi => ?_⟩
  unfold argT
  cases e : args[i]? with
  | none => exact .any _
  | some c =>
    have := h.2 i c e
    have hs : i < vs.size := by rw [h.1]; exact lt_of_getElem?_some e
    have hs2 : i < vs.size + (nt - vs.size) := by omega
    simpa [Array.getD, hs, hs2, Array.getElem_append_left hs] using this

/-- What is left to show of a body. -/
def BodyQ (P : Program) (nt : Nat) (fn : Func) (H : AHeap) (v : AVal) (H2 : AHeap) : Ex → (Nat → AVal) → AHeap → List Nat → Prop
  | .exit _, _, _, _ => False
  | _, T, H1, D => ∃ v0, RetS P nt fn T (killAll D H1) v0 ∧ Marks D H1 ∧ Fin H v0 (killAll D H1) v H2

theorem fn_of_code {P : Program} {f : FuncId} {fn : Func} {c : Code} {nt : Nat} {args : List AVal} {H : AHeap} {v : AVal} {H2 : AHeap} (hf : P.funcs[f]? = some fn) (hb : fn.body = some c) (hn : fn.ntmps = nt) (ha : args.length ≤ nt)
    (h : CodeS P nt none c (argT args) H [] (BodyQ P nt fn H v H2)) : FnS P f args H v H2 := by
  intro g w vs hi har cs
  let b : Frame := { (default : Frame) with fn := f, kind := .normal }
  have henter : Frame.enter P f vs .normal = on b { tmps := vs ++ Array.replicate (nt - vs.size) undef, defers := [] } [.code c] := by
    simp [Frame.enter, on, hf, hb, b, hn]; rfl
  obtain ⟨e, T', H', D', g', a', w', q, hi', hx, ht', hd', harr⟩ := h g { tmps := vs ++ Array.replicate (nt - vs.size) undef, defers := [] } w hi (argT_rel har ha) ⟨rfl, fun i n e => by simp at e⟩ b [] cs trivial
  rw [← henter] at harr
  have key : ∀ k0, Steps P (lone (Frame.enter P f vs .normal) cs w) (lone { on b a' k0 with mode := .returning } cs w') → (∃ v0, RetS P nt fn T' (killAll D' H') v0 ∧ Marks D' H' ∧ Fin H v0 (killAll D' H') v H2) →
      ∃ g' v' w' fr, Inv g' w' H2 ∧ Ext g w H g' w' H2 ∧ VRel g' v v' ∧ Steps P (lone (Frame.enter P f vs .normal) cs w) (lone fr cs w') ∧ fr.fn = f ∧ fr.leaving P w' (.returned v') := by
    intro k0 hs ⟨v0, hret, hm, hfin⟩
    obtain ⟨w2, i2, x2, s2⟩ := unwind_marks (P := P) (b := b) (cs := cs) (a := a') (k := k0) D' a'.defers g' w' H' hi' hd' hm
    obtain ⟨u, hr, hv⟩ := hret g' a'.tmps w2 i2 ht'
    obtain ⟨g3, i3, x3, v3⟩ := fin_of hfin hi i2 (hx.trans x2) hv
    exact ⟨g3, u, w2, { on b a' k0 with mode := .returning, defers := [] }, i3, x3, v3, hs.trans s2, rfl, rfl, rfl, rfl, fn, hf, hr⟩
  cases e with
  | normal => exact key [] (Steps.trans harr (.one (step_lone_go (by simp [stepG, stepG.exec, on, b]; rfl)))) q
  | ret =>
    obtain ⟨k', hs⟩ := harr
    exact key (.code .ret :: k') (Steps.trans hs (.one (step_lone_go (by simp [stepG, stepG.exec, on, b]; rfl)))) q
  | exit id => exact q.elim

end Go.Proofs.YtennhanlcbibaaaGreatDoor.Lb

/- Calls; ranges over functions. -/
namespace Go.Proofs.YtennhanlcbibaaaGreatDoor.Lb
open Go

/-- A call of a function value. -/
theorem op_call {P : Program} {nt : Nat} {o : Oper} {T : Nat → AVal} {H : AHeap} {v : AVal} {H' : AHeap} {f : Operand} {as : Array Operand} {ts : Array TypeId} (ho : o.op = .call { callee := .value f, args := as, argTypes := ts })
    (h : InvS P (aeval nt T f) (as.toList.map (aeval nt T)) H v H') : OpS P nt o T H v H' := by
  intro g a w hi ht b ops i rest k cs hoi hw
  have har : ARel g (as.toList.map (aeval nt T)) (as.map a.eval) := by
    refine ⟨by simp, fun j c e => ?_⟩
    rw [List.getElem?_map] at e
    obtain ⟨x, hx, rfl⟩ := Option.map_eq_some_iff.1 e
    have hj := lt_of_getElem?_some hx
    have hj2 : j < as.size := by simpa using hj
    have : as[j] = x := by
      have := List.getElem?_eq_some_iff.1 hx
      obtain ⟨h1, h2⟩ := this
      simpa using h2
    simp [Array.getD, hj2, this]
    exact ht x (by rw [ho]; simp only [Op.operands, Call.operands]; exact Array.mem_append.2 (.inr (by rw [← this]; exact Array.getElem_mem hj2)))
  obtain ⟨nx, fr, g', v', w', hrun, hfr, i', x', r', s'⟩ := h g w (a.eval f) (as.map a.eval) hi (ht f (by rw [ho]; simp [Op.operands, Call.operands])) har (on b a (.inRegion ops (i :: rest) :: k)) cs
  have hex : (execOp a.eval o).run P w = .ok nx w := by
    have : execOp a.eval o = (Deferred.ofValue (a.eval f) (as.map a.eval) >>= fun d => invoke d.target d.args) := by
      simp [execOp, ho, resolve]
    rw [this]; exact hrun
  have hf := on_finish b a ops i rest k v'
  rw [hoi] at hf
  simp only [Option.bind_some] at hf
  rw [hf] at s'
  refine ⟨g', v', w', i', x', r', ?_⟩
  have hd : ∀ c, o.op ≠ .defer c := fun c e => by rw [ho] at e; cases e
  cases nx <;> simp only [nextFrame] at hfr <;> try cases hfr
  · exact .head (on_enter hoi hw hd hex) s'
  · exact .head (on_round hoi hw hd hex) s'

def jump : Ex → Option Code
  | .normal => none
  | .exit id => some (.exit id)
  | .ret => some .ret

/-- The temporaries with which a round begins. -/
def roundT (L : ALoop) (args : List AVal) : Nat → AVal := ((L.params.toList.zip args).foldl (fun T p => upd T p.1 p.2) L.tmps)

theorem roundT_rel {g : G} {nt : Nat} : ∀ (ps : List Tmp) (as : List AVal) (vs : List Value) (T : Nat → AVal) (tm : Array Value), TRel g nt T tm → as.length = vs.length → (∀ (i : Nat) (c : AVal), as[i]? = some c → VRel g c (vs.getD i undef)) →
    TRel g nt ((ps.zip as).foldl (fun T p => upd T p.1 p.2) T) ((ps.zip vs).foldl (fun tm (p : Tmp × Value) => tm.setIfInBounds p.1 p.2) tm)
  | [], as, vs, T, tm, h, _, _ => by simpa using h
  | p :: ps, [], [], T, tm, h, _, _ => by simpa using h
  | p :: ps, a :: as, v :: vs, T, tm, h, hl, hv => by
    simp only [List.zip_cons_cons, List.foldl_cons]
    refine roundT_rel ps as vs _ _ ?_ (by simpa using hl) (fun i c e => by have := hv (i + 1) c (by simpa using e); simpa using this)
    exact TRel.put (a := ⟨tm, []⟩) h (some p) (by simpa using hv 0 a rfl)

/-- A round of a loop over a function. -/
theorem inv_yield {P : Program} {n : Nat} {L : ALoop} {args : List AVal} {H : AHeap} {v : AVal} {H' : AHeap} (hL : H[n]? = some (.loop L)) (hp : L.params.size = args.length)
    (h : CodeS P L.nt (some n) L.assign (roundT L args) H [] (fun e T1 H1 D1 => (match e with | .normal => True | _ => False) ∧ D1 = [] ∧ ∃ L1, H1[n]? = some (.loop L1) ∧ L1.st = .ready ∧
      CodeS P L.nt (some n) L.body T1 (H1.set n (.loop { L1 with st := .busy })) [] (fun e2 T2 H2 D2 => D2 = [] ∧ ∃ L2, H2[n]? = some (.loop L2) ∧
        Fin H (.bool (jump e2).isNone) (H2.set n (.loop { L2 with st := if (jump e2).isNone then .ready else .done, pending := jump e2 })) v H'))) :
    InvS P (.yld n) args H v H' := by
  intro g w fv' vs hi hfv har c cs
  cases hfv with
  | yld _ l N hio =>
    obtain ⟨r, hr, hst, hpe, htm, hpa, has, hbo⟩ := hi.obj n 0 _ _ hio hL rfl
    have hvs : vs.size = args.length := har.1
    let tm := (r.params.zip vs).foldl (fun tmps (p : Tmp × Value) => tmps.setIfInBounds p.1 p.2) r.tmps
    have htm' : TRel g L.nt (roundT L args) tm := by
      have := roundT_rel L.params.toList args vs.toList L.tmps r.tmps htm (by simp [hvs]) (fun i c e => by
        have := har.2 i c e
        have hi' : i < vs.size := by rw [hvs]; exact lt_of_getElem?_some e
        simpa [Array.getD, hi', List.getD_eq_getElem?_getD, List.getElem?_eq_getElem (show i < vs.toList.length by simpa using hi')] using this)
      have e : tm = (L.params.toList.zip vs.toList).foldl (fun tm (p : Tmp × Value) => tm.setIfInBounds p.1 p.2) r.tmps := by
        simp only [tm, hpa]
        rw [← Array.foldl_toList]; simp
      rw [e]; exact this
    let b : Frame := { (default : Frame) with fn := r.fn, kind := .normal, roundOf := some l }
    have hbro : b.roundOf = some l := rfl
    have hfr : Frame.round l r.fn tm r.assign r.body .normal = on b { tmps := tm, defers := [] } [.code L.assign, .beginRound, .code L.body] := by
      simp [Frame.round, on, b, has, hbo]
    obtain ⟨e1, T1, H1, D1, g1, a1, w1, ⟨hq, rfl, L1, hL1, hst1, hbody⟩, i1, x1, t1, d1, s1⟩ := h g { tmps := tm, defers := [] } w hi htm' ⟨rfl, fun i n e => by simp at e⟩ b [.beginRound, .code L.body] (c :: cs) ⟨N, hio⟩
    cases e1 with
    | exit id => exact hq.elim
    | ret => exact hq.elim
    | normal =>
    have hio1 := x1.le.io _ _ _ hio
    obtain ⟨r1, hr1, hrs1, hpe1, htm1, hpa1, has1, hbo1⟩ := i1.obj n 0 _ _ hio1 hL1 rfl
    -- the round begins
    let w2 : World := { w1 with heap := w1.heap.setIfInBounds l (.loop { r1 with state := .busy }) }
    have hlt1 := i1.lt n 0 l N hio1
    have hne : ∀ x, x ≠ l → w2.heap[x]? = w1.heap[x]? := fun x hx => by
      show (w1.heap.setIfInBounds l _)[x]? = _
      rw [Array.getElem?_setIfInBounds_ne (fun e => hx e.symm)]
    have hself : w2.heap[l]? = some (.loop { r1 with state := .busy }) := by
      show (w1.heap.setIfInBounds l _)[l]? = _
      rw [Array.getElem?_setIfInBounds_self_of_lt hlt1]
    have i2 : Inv g1 w2 (H1.set n (.loop { L1 with st := .busy })) :=
      inv_update i1 hio1 (by simp [AHeap.gen, hL1, AObj.gen]) (.inl rfl) hne (by simp [w2]) (fun _ => ⟨_, hself, rfl, hpe1, htm1, hpa1, has1, hbo1⟩)
    have x2 : Ext g1 w1 H1 g1 w2 (H1.set n (.loop { L1 with st := .busy })) := ext_update hio1 hne (by simp [w2]) rfl rfl rfl (by simp)
    have sb : step P (lone (on b a1 [.beginRound, .code L.body]) (c :: cs) w1) = .next (lone (on b a1 [.code L.body]) (c :: cs) w2) := by
      refine step_lone_go ?_
      have hst' : r1.state = .ready := hrs1.trans hst1
      simp [stepG, stepG.exec, stepG.apply, on, hbro, Instr.beginRound, Instr.getLoop, getObj, setObj, Sem.run, hr1, hst', Frame.finish, w2, Sem.runT_eq]
    obtain ⟨e3, T3, H3, D3, g3, a3, w3, ⟨rfl, L2, hL2, hfin⟩, i3, x3, t3, d3, s3⟩ := hbody g1 a1 w2 i2 t1 d1 b [] (c :: cs) ⟨N, hio1⟩
    have hio3 := x3.le.io _ _ _ hio1
    obtain ⟨r3, hr3, hrs3, hpe3, htm3, hpa3, has3, hbo3⟩ := i3.obj n 0 _ _ hio3 hL2 rfl
    have hlt3 := i3.lt n 0 l N hio3
    let r4 : Loop := { r3 with state := if (jump e3).isNone then .ready else .done, pending := jump e3 }
    let w4 : World := { w3 with heap := w3.heap.setIfInBounds l (.loop r4) }
    have hne4 : ∀ x, x ≠ l → w4.heap[x]? = w3.heap[x]? := fun x hx => by
      show (w3.heap.setIfInBounds l _)[x]? = _
      rw [Array.getElem?_setIfInBounds_ne (fun e => hx e.symm)]
    have hself4 : w4.heap[l]? = some (.loop r4) := by
      show (w3.heap.setIfInBounds l _)[l]? = _
      rw [Array.getElem?_setIfInBounds_self_of_lt hlt3]
    have i4 : Inv g3 w4 (H3.set n (.loop { L2 with st := if (jump e3).isNone then .ready else .done, pending := jump e3 })) :=
      inv_update i3 hio3 (by simp [AHeap.gen, hL2, AObj.gen]) (.inl rfl) hne4 (by simp [w4]) (fun _ => ⟨_, hself4, rfl, rfl, htm3, hpa3, has3, hbo3⟩)
    have x4 : Ext g3 w3 H3 g3 w4 (H3.set n (.loop { L2 with st := if (jump e3).isNone then .ready else .done, pending := jump e3 })) := ext_update hio3 hne4 (by simp [w4]) rfl rfl rfl (by simp)
    obtain ⟨g5, i5, x5, v5⟩ := fin_of hfin hi i4 (((x1.trans x2).trans x3).trans x4) (.bool _)
    refine ⟨.round l r.fn tm r.assign r.body, _, g5, .bool (jump e3).isNone, w4, ?_, rfl, i5, x5, v5, ?_⟩
    · have hsz : vs.size = r.params.size := by rw [hvs, hpa, hp]
      simp [Deferred.ofValue, invoke, Instr.yield, Instr.getLoop, getObj, Sem.run, hr, hsz, tm]
    · rw [hfr]
      refine Steps.trans s1 (.head sb ?_)
      have leave : ∀ k0, (e3 = .normal → k0 = []) → (∀ id, e3 = .exit id → ∃ k', k0 = .code (.exit id) :: k' ∧ exitTo id k' = none) → (e3 = .ret → ∃ k', k0 = .code .ret :: k') → step P (lone (on b a3 k0) (c :: cs) w3) = .next (lone (c.finish (.bool (jump e3).isNone)) cs w4) := by
        intro k0 h1 h2 h3
        refine step_lone_go ?_
        cases e3 with
        | normal =>
          obtain rfl := h1 rfl
          simp [stepG, stepG.exec, on, hbro, Instr.endRound, Instr.getLoop, getObj, setObj, Sem.run, hr3, Sem.runT_eq, doReturn, jump, w4, r4, b]
        | exit id =>
          obtain ⟨k', rfl, hk⟩ := h2 id rfl
          simp [stepG, stepG.exec, on, hbro, hk, Instr.endRound, Instr.getLoop, getObj, setObj, Sem.run, hr3, Sem.runT_eq, doReturn, jump, w4, r4, b]
        | ret =>
          obtain ⟨k', rfl⟩ := h3 rfl
          simp [stepG, stepG.exec, on, hbro, Instr.endRound, Instr.getLoop, getObj, setObj, Sem.run, hr3, Sem.runT_eq, doReturn, jump, w4, r4, b]
      cases e3 with
      | normal => exact Steps.trans s3 (.one (leave [] (fun _ => rfl) (by simp) (by simp)))
      | exit id =>
        obtain ⟨k', hk, hs⟩ := s3
        exact Steps.trans hs (.one (leave _ (by simp) (fun id' e => by cases e; exact ⟨k', rfl, hk.trans rfl⟩) (by simp)))
      | ret =>
        obtain ⟨k', hs⟩ := s3
        exact Steps.trans hs (.one (leave _ (by simp) (by simp) (fun _ => ⟨k', rfl⟩)))

/-- What the loop's record says when the iterator has come back. -/
def afterLoop (L : ALoop) (Q : Ex → (Nat → AVal) → AHeap → List Nat → Prop) (T : Nat → AVal) (H : AHeap) (D : List Nat) : Prop :=
  L.st ≠ .busy ∧ match L.pending with
    | none => Q .normal T H D
    | some .ret => Q .ret T H D
    | some (.exit id) => Q (.exit id) T H D
    | _ => False

theorem range_tail {P : Program} {nt : Nat} {T : Nat → AVal} {H2 : AHeap} {D : List Nat} {Q : Ex → (Nat → AVal) → AHeap → List Nat → Prop} {n l : Nat} {N : Nat} {L2 : ALoop} {g2 : G} {w2 : World} {b : Frame} {a : Act} {k : List Item} {cs : List Frame}
    (i2 : Inv g2 w2 H2) (t2 : TRel g2 nt T a.tmps) (d2 : DRel g2 D a.defers) (hio : g2.io n 0 = some (some l, N)) (hL2 : H2[n]? = some (.loop L2)) (hq : afterLoop L2 Q T (H2.set n .dead) D) :
    ∃ e T' H' D' g' a' w', Q e T' H' D' ∧ Inv g' w' H' ∧ Ext g2 w2 H2 g' w' H' ∧ TRel g' nt T' a'.tmps ∧ DRel g' D' a'.defers ∧ ArrS P (lone (on b a (.endRangeFunc l :: k)) cs w2) b k cs e a' w' := by
  obtain ⟨r, hr, hrs, hpe, htm, hpa, has, hbo⟩ := i2.obj n 0 _ _ hio hL2 rfl
  let w3 : World := { w2 with heap := w2.heap.setIfInBounds l (.loop { r with state := .exhausted }) }
  have hlt := i2.lt n 0 l N hio
  have hne : ∀ x, x ≠ l → w3.heap[x]? = w2.heap[x]? := fun x hx => by
    show (w2.heap.setIfInBounds l _)[x]? = _
    rw [Array.getElem?_setIfInBounds_ne (fun e => hx e.symm)]
  have hself : w3.heap[l]? = some (.loop { r with state := .exhausted }) := by
    show (w2.heap.setIfInBounds l _)[l]? = _
    rw [Array.getElem?_setIfInBounds_self_of_lt hlt]
  have i3 : Inv g2 w3 (H2.set n .dead) :=
    inv_update i2 hio (by simp [AHeap.gen, hL2, AObj.gen]) (.inr rfl) hne (by simp [w3]) (fun h => by cases h)
  have x3 : Ext g2 w2 H2 g2 w3 (H2.set n .dead) := ext_update hio hne (by simp [w3]) rfl rfl rfl (by simp)
  obtain ⟨hb, hq⟩ := hq
  have hb' : ¬ r.state = LoopState.busy := by rw [hrs]; exact hb
  have hst : step P (lone (on b a (.endRangeFunc l :: k)) cs w2) = .next (lone (on b a ((r.pending.map Item.code).toList ++ k)) cs w3) := by
    refine step_lone_go ?_
    simp [stepG, stepG.exec, on, Instr.endLoop, Instr.getLoop, getObj, setObj, Sem.run, hr, Sem.runT_eq, hb', w3]
  rw [hpe] at hst
  split at hq
  · rename_i e
    rw [e] at hst
    exact ⟨.normal, T, _, D, g2, a, w3, hq, i3, x3, t2, d2, .one hst⟩
  · rename_i e
    rw [e] at hst
    exact ⟨.ret, T, _, D, g2, a, w3, hq, i3, x3, t2, d2, k, .one hst⟩
  · rename_i id e
    rw [e] at hst
    exact ⟨.exit id, T, _, D, g2, a, w3, hq, i3, x3, t2, d2, k, rfl, .one hst⟩
  · exact hq.elim

theorem alloc_self (w : World) (o : Obj) : (w.alloc o).heap[w.heap.size]? = some o := by
  show (w.heap.push o)[w.heap.size]? = _
  simp

theorem run_enterLoop_none (P : Program) (w : World) (fn : FuncId) (tmps : Array Value) (params : Array Tmp) (as body : Code) :
    (Instr.enterLoop fn tmps params as body none).run P w = .ok (w.heap.size + 1, [{ target := .collected w.heap.size, args := #[] }])
      ((w.alloc (.deferred (some []))).alloc (.loop { state := .ready, pending := none, fn := fn, tmps := tmps, params := params, assign := as, body := body, defers := w.heap.size })) := by
  simp [Instr.enterLoop]

theorem run_enterLoop_some (P : Program) (w : World) (fn : FuncId) (tmps : Array Value) (params : Array Tmp) (as body : Code) (l : Nat) (r : Loop) (h : w.heap[l]? = some (.loop r)) :
    (Instr.enterLoop fn tmps params as body (some l)).run P w = .ok (w.heap.size, [])
      (w.alloc (.loop { state := .ready, pending := none, fn := fn, tmps := tmps, params := params, assign := as, body := body, defers := r.defers })) := by
  simp [Instr.enterLoop, Instr.getLoop, getObj, Sem.run, h]

theorem io_none_of_dom {g : G} {w : World} {H : AHeap} (hi : Inv g w H) {n k : Nat} (hn : H.length ≤ n) : g.io n k = none := by
  cases e : g.io n k with
  | none => rfl
  | some t => have := hi.dom _ _ _ e; omega

/-- A range over a function, in a function's own frame. -/
theorem code_range {P : Program} {nt : Nat} {f : Operand} {params : Array Tmp} {as body : Code} {tr : Tr} {T : Nat → AVal} (htr : T = tr.get) {H : AHeap} {D : List Nat} {Q : Ex → (Nat → AVal) → AHeap → List Nat → Prop} {rv : AVal} {H2 : AHeap} {L2 : ALoop}
    (h : InvS P (aeval nt T f) [.yld (H.length + 1)] (H ++ [.defd] ++ [.loop { st := .ready, pending := none, tr := tr, nt := nt, params := params, assign := as, body := body }]) rv H2)
    (hL : H2[H.length + 1]? = some (.loop L2)) (hq : afterLoop L2 Q T (H2.set (H.length + 1) .dead) (H.length :: D)) : CodeS P nt none (.rangeFunc f params as body) T H D Q := by
  subst htr
  intro g a w hi ht hd b k cs hr
  have hbro : b.roundOf = none := by
    cases e : b.roundOf with
    | none => rfl
    | some l => rw [e] at hr; exact hr.elim
  obtain ⟨i1, x1⟩ := inv_alloc (o := .defd) (ob := .deferred (some [])) (k := 0) (N := 0) hi rfl (by
    show (w.heap.push _)[w.heap.size]? = _
    simp)
  let r : Loop := { state := .ready, pending := none, fn := b.fn, tmps := a.tmps, params := params, assign := as, body := body, defers := w.heap.size }
  obtain ⟨i2, x2⟩ := inv_alloc (o := .loop { st := .ready, pending := none, tr := tr, nt := nt, params := params, assign := as, body := body }) (ob := .loop r) (k := 0) (N := 0) i1 rfl ⟨r, alloc_self _ _, rfl, rfl, (ht.mono (G.le.trans x1.le (G.le_add (io_none_of_dom i1 (Nat.le_refl _))))), rfl, rfl, rfl⟩
  simp only [World.size_alloc, List.length_append, List.length_cons, List.length_nil, Nat.zero_add] at i2 x2
  have x12 := x1.trans x2
  have hyv : VRel ((g.add H.length 0 (some w.heap.size, 0)).add (H.length + 1) 0 (some (w.heap.size + 1), 0)) (.yld (H.length + 1)) (.func (.yield (w.heap.size + 1)) #[] #[]) := .yld _ _ 0 G.add_self
  let a1 : Act := { a with defers := { target := .collected w.heap.size, args := #[] } :: a.defers }
  obtain ⟨nx, fr, g3, v3, w3, hrun, hfr, i3, x3, v3r, s3⟩ := h _ _ (a.eval f) #[.func (.yield (w.heap.size + 1)) #[] #[]] i2 ((ht.eval f).mono x12.le) ⟨rfl, fun i c e => by
    cases i with
    | zero => simp at e; subst e; exact hyv
    | succ i => simp at e⟩ (on b a1 (.inRangeFunc (w.heap.size + 1) :: k)) cs
  have hst : step P (lone (on b a (.code (.rangeFunc f params as body) :: k)) cs w) = .next (lone fr (on b a1 (.inRangeFunc (w.heap.size + 1) :: k) :: cs) ((w.alloc (.deferred (some []))).alloc (.loop r))) := by
    refine step_lone_go ?_
    have hev := congrFun (on_eval b a1 (.inRangeFunc (w.heap.size + 1) :: k)) f
    have he1 : a1.eval f = a.eval f := by cases f <;> rfl
    rw [he1] at hev
    cases nx <;> simp only [nextFrame] at hfr <;> try cases hfr
    all_goals
      simp only [Sem.run_bind] at hrun
      have hev2 : (on b a1 (.inRangeFunc (w.heap.size + 1) :: k)).eval (.const (.func (.yield (w.heap.size + 1)) #[] #[])) = .func (.yield (w.heap.size + 1)) #[] #[] := rfl
      simp only [on, a1, hbro] at hev hev2
      simp [stepG, stepG.exec, stepG.apply, on, hbro, run_enterLoop_none, Sem.runT_eq, resolve, a1, r, hev, hev2]
      simp [r] at hrun
      rw [hrun]
      rfl
  have hio2 : g3.io (H.length + 1) 0 = some (some (w.heap.size + 1), 0) := x3.le.io _ _ _ G.add_self
  have hfin : (on b a1 (.inRangeFunc (w.heap.size + 1) :: k)).finish v3 = on b a1 (.endRangeFunc (w.heap.size + 1) :: k) := rfl
  rw [hfin] at s3
  have d3 : DRel g3 (H.length :: D) a1.defers := by
    have d0 := (hd.mono x12.le).mono x3.le
    refine ⟨by simp [a1, d0.1], fun i n e => ?_⟩
    cases i with
    | zero =>
      simp at e; subst e
      exact ⟨w.heap.size, 0, x3.le.io _ _ _ (x2.le.io _ _ _ G.add_self), rfl⟩
    | succ i => simpa [a1] using d0.2 i n (by simpa using e)
  obtain ⟨e, T', H', D', g', a', w', q, i', x', t', d', arr⟩ := range_tail (P := P) (b := b) (k := k) (cs := cs) (a := a1) i3 ((ht.mono x12.le).mono x3.le) d3 hio2 hL hq
  exact ⟨e, T', H', D', g', a', w', q, i', (x12.trans x3).trans x', t', d', .of_steps (.head hst s3) arr⟩

/-- A range over a function, in a round of another one. -/
theorem code_range_in {P : Program} {nt n0 : Nat} {L0 : ALoop} {f : Operand} {params : Array Tmp} {as body : Code} {tr : Tr} {T : Nat → AVal} (htr : T = tr.get) {H : AHeap} {D : List Nat} {Q : Ex → (Nat → AVal) → AHeap → List Nat → Prop} {rv : AVal} {H2 : AHeap} {L2 : ALoop}
    (h0 : H[n0]? = some (.loop L0))
    (h : InvS P (aeval nt T f) [.yld H.length] (H ++ [.loop { st := .ready, pending := none, tr := tr, nt := nt, params := params, assign := as, body := body }]) rv H2)
    (hL : H2[H.length]? = some (.loop L2)) (hq : afterLoop L2 Q T (H2.set H.length .dead) D) : CodeS P nt (some n0) (.rangeFunc f params as body) T H D Q := by
  subst htr
  intro g a w hi ht hd b k cs hr
  obtain ⟨l0, hbro⟩ : ∃ l0, b.roundOf = some l0 := by
    cases e : b.roundOf with
    | none => rw [e] at hr; exact hr.elim
    | some l => exact ⟨l, rfl⟩
  rw [hbro] at hr
  obtain ⟨N0, hio0⟩ := hr
  obtain ⟨r0, hr0, _⟩ := hi.obj n0 0 _ _ hio0 h0 rfl
  let r : Loop := { state := .ready, pending := none, fn := b.fn, tmps := a.tmps, params := params, assign := as, body := body, defers := r0.defers }
  obtain ⟨i2, x2⟩ := inv_alloc (o := .loop { st := .ready, pending := none, tr := tr, nt := nt, params := params, assign := as, body := body }) (ob := .loop r) (k := 0) (N := 0) hi rfl ⟨r, alloc_self _ _, rfl, rfl, ht.mono (G.le_add (io_none_of_dom hi (Nat.le_refl _))), rfl, rfl, rfl⟩
  have hyv : VRel (g.add H.length 0 (some w.heap.size, 0)) (.yld H.length) (.func (.yield w.heap.size) #[] #[]) := .yld _ _ 0 G.add_self
  obtain ⟨nx, fr, g3, v3, w3, hrun, hfr, i3, x3, v3r, s3⟩ := h _ _ (a.eval f) #[.func (.yield w.heap.size) #[] #[]] i2 ((ht.eval f).mono x2.le) ⟨rfl, fun i c e => by
    cases i with
    | zero => simp at e; subst e; exact hyv
    | succ i => simp at e⟩ (on b a (.inRangeFunc w.heap.size :: k)) cs
  have hst : step P (lone (on b a (.code (.rangeFunc f params as body) :: k)) cs w) = .next (lone fr (on b a (.inRangeFunc w.heap.size :: k) :: cs) (w.alloc (.loop r))) := by
    refine step_lone_go ?_
    have hev := congrFun (on_eval b a (.inRangeFunc w.heap.size :: k)) f
    cases nx <;> simp only [nextFrame] at hfr <;> try cases hfr
    all_goals
      simp only [Sem.run_bind] at hrun
      have hev2 : (on b a (.inRangeFunc w.heap.size :: k)).eval (.const (.func (.yield w.heap.size) #[] #[])) = .func (.yield w.heap.size) #[] #[] := rfl
      simp only [on, hbro] at hev hev2
      simp [stepG, stepG.exec, stepG.apply, on, hbro, run_enterLoop_some _ _ _ _ _ _ _ _ _ hr0, Sem.runT_eq, resolve, r, hev, hev2]
      simp [r] at hrun
      rw [hrun]
      rfl
  have hio2 : g3.io H.length 0 = some (some w.heap.size, 0) := x3.le.io _ _ _ G.add_self
  have hfin : (on b a (.inRangeFunc w.heap.size :: k)).finish v3 = on b a (.endRangeFunc w.heap.size :: k) := rfl
  rw [hfin] at s3
  obtain ⟨e, T', H', D', g', a', w', q, i', x', t', d', arr⟩ := range_tail (P := P) (b := b) (k := k) (cs := cs) (a := a) i3 ((ht.mono x2.le).mono x3.le) ((hd.mono x2.le).mono x3.le) hio2 hL hq
  exact ⟨e, T', H', D', g', a', w', q, i', (x2.trans x3).trans x', t', d', .of_steps (.head hst s3) arr⟩
end Go.Proofs.YtennhanlcbibaaaGreatDoor.Lb

/- Statements whose order is left open: what the order of the text gives, every order gives, where a check on the operations' edges says so. -/
namespace Go.Proofs.YtennhanlcbibaaaGreatDoor.Lb
open Go

/-! ### Memory, a part of the names being known -/
theorem inv_more {g : G} {w : World} {H : AHeap} (L : List AObj) (hi : Inv g w H) : Inv g w (H ++ L) := by
  have hge : ∀ n, n < H.length → (H ++ L)[n]? = H[n]? := fun n h => List.getElem?_append_left h
  refine ⟨fun n k t h => by have := hi.dom n k t h; simp; omega, fun n k t l h hl => ?_, fun n k t l h hl => ?_, fun n k o t h ho hg => ?_, hi.lt, hi.inj, hi.imm, fun n k b N o h hl => ?_⟩
  · unfold AHeap.gen at hl; rw [hge n (hi.dom n k t h)] at hl; exact hi.live n k t l h hl
  · unfold AHeap.gen at hl; rw [hge n (hi.dom n k t h)] at hl; exact hi.genle n k t l h hl
  · rw [hge n (hi.dom n k t h)] at ho; exact hi.obj n k o t h ho hg
  · unfold AHeap.gen at hl; rw [hge n (hi.dom n k _ h)] at hl; exact hi.disj n k b N o h hl

/-- A new block for an object that the heap bears already. -/
theorem inv_fill {g : G} {w : World} {H : AHeap} {n N : Nat} {o : AObj} {ob : Obj} (hi : Inv g w H) (hn : H[n]? = some o) (hg : o.gen = some 0) (hno : ∀ k, g.io n k = none) (hnew : ORel (g.add n 0 (some w.heap.size, N)) (w.alloc ob) o (some w.heap.size, N)) :
    Inv (g.add n 0 (some w.heap.size, N)) (w.alloc ob) H := by
  have hle : g.le (g.add n 0 (some w.heap.size, N)) := G.le_add (hno 0)
  have hio : ∀ {m l t}, (g.add n 0 (some w.heap.size, N)).io m l = some t → (m = n ∧ l = 0 ∧ t = (some w.heap.size, N)) ∨ (m ≠ n ∧ g.io m l = some t) := by
    intro m l t h
    simp only [G.add] at h
    split at h
    · rename_i e; injection h with h; exact .inl ⟨e.1, e.2, h.symm⟩
    · refine .inr ⟨fun e => ?_, h⟩
      subst e
      rw [hno] at h
      cases h
  have hsame : ∀ c, c < w.heap.size → (w.alloc ob).heap[c]? = w.heap[c]? := fun c hc => by
    show (w.heap.push ob)[c]? = _
    rw [Array.getElem?_push, if_neg (by omega)]
  have hgn : H.gen n = some 0 := by simp [AHeap.gen, hn, hg]
  refine ⟨fun m l t h => ?_, fun m l t l' h hl => ?_, fun m l t l' h hl => ?_, fun m l o' t h ho hg' => ?_, fun m l c M h => ?_, fun m m' l l' c M M' h h' => ?_, fun c x v h => ?_, fun m l c M x h hm => ?_⟩
  · rcases hio h with ⟨rfl, _⟩ | ⟨_, h2⟩
    · exact lt_of_getElem?_some hn
    · exact hi.dom _ _ _ h2
  · rcases hio h with ⟨rfl, _⟩ | ⟨_, h2⟩
    · rw [hgn] at hl; injection hl with hl; subst hl; exact ⟨_, G.add_self⟩
    · obtain ⟨u, hu⟩ := hi.live m l t l' h2 hl; exact ⟨u, hle.io _ _ _ hu⟩
  · rcases hio h with ⟨rfl, e2, _⟩ | ⟨_, h2⟩
    · rw [hgn] at hl; injection hl with hl; omega
    · exact hi.genle m l t l' h2 hl
  · rcases hio h with ⟨rfl, rfl, rfl⟩ | ⟨_, h2⟩
    · rw [hn] at ho; injection ho with ho; subst ho; exact hnew
    · refine ((hi.obj m l o' t h2 ho hg').mono hle).same_block fun c hc => hsame c ?_
      obtain ⟨bk, M⟩ := t
      simp only at hc
      subst hc
      exact hi.lt m l c M h2
  · rw [World.size_alloc]
    rcases hio h with ⟨_, _, e3⟩ | ⟨_, h2⟩
    · injection e3 with e3 _; injection e3 with e3; omega
    · have := hi.lt m l c M h2; omega
  · rcases hio h with ⟨e1, _, e3⟩ | ⟨e, h2⟩ <;> rcases hio h' with ⟨e1', _, e3'⟩ | ⟨e', h2'⟩
    · omega
    · injection e3 with e3 _; injection e3 with e3
      have := hi.lt _ _ _ _ h2'; omega
    · injection e3' with e3' _; injection e3' with e3'
      have := hi.lt _ _ _ _ h2; omega
    · exact hi.inj m m' l l' c M M' h2 h2'
  · have hc := hi.imm c x v h
    rw [World.cell?_of_block (w := w) (hsame c (World.block_lt_of_cell? w _ hc))]; exact hc
  · rcases hio h with ⟨_, _, e3⟩ | ⟨e, h2⟩
    · injection e3 with e3 _; injection e3 with e3
      cases hx : (g.add n 0 (some w.heap.size, N)).im c x with
      | none => rfl
      | some v => have := World.block_lt_of_cell? w _ (hi.imm c x v hx); simp at this; omega
    · exact hi.disj m l c M x h2 hm

/-! ### What an operation does, by its class -/
/-- It computes, and asks nothing of memory. -/
def OpN (P : Program) (nt : Nat) (o : Oper) (T : Nat → AVal) (v : AVal) : Prop :=
  (∀ c, o.op ≠ .defer c) ∧ ∀ (g : G) (a : Act) (w : World), ERel g nt T a o → ∃ v', VRel g v v' ∧ (execOp a.eval o).run P w = .ok (.value v') w
/-- It lays one new object, named n. -/
def OpA (P : Program) (nt : Nat) (o : Oper) (T : Nat → AVal) (n : Nat) (v : AVal) (ob : AObj) : Prop :=
  (∀ c, o.op ≠ .defer c) ∧ ob.gen = some 0 ∧ ∀ (g : G) (a : Act) (w : World), ERel g nt T a o → (∀ k, g.io n k = none) → ∃ v' oc N, (execOp a.eval o).run P w = .ok (.value v') (w.alloc oc) ∧
    ORel (g.add n 0 (some w.heap.size, N)) (w.alloc oc) ob (some w.heap.size, N) ∧ VRel (g.add n 0 (some w.heap.size, N)) v v'

theorem op_n {P : Program} {nt : Nat} {o : Oper} {T : Nat → AVal} {v : AVal} (h : OpN P nt o T v) (H : AHeap) : OpS P nt o T H v H :=
  op_of_value h.1 fun g a w hi he => by
    obtain ⟨v', hv, hr⟩ := h.2 g a w he
    exact ⟨g, v', w, hi, .refl _ _ _, hv, .inl hr⟩

theorem op_a {P : Program} {nt : Nat} {o : Oper} {T : Nat → AVal} {v : AVal} {ob : AObj} {H : AHeap} (h : OpA P nt o T H.length v ob) : OpS P nt o T H v (H ++ [ob]) :=
  op_of_value h.1 fun g a w hi he => by
    obtain ⟨v', oc, N, hr, ho, hv⟩ := h.2.2 g a w he (fun k => io_none_of_dom hi (Nat.le_refl _))
    obtain ⟨i2, x2⟩ := inv_alloc hi h.2.1 ho
    exact ⟨_, v', _, i2, x2, hv, .inl hr⟩

/-! ### The canonical run of a region -/
/-- Which objects a writing operation may change: one, or those from some name on. -/
inductive Wr where
  | one (n : Nat)
  | from (lo : Nat)
  | set (ws : List Nat) (m : Nat)

def Wr.hits : Wr → Nat → Bool
  | .one n, m => Nat.beq n m
  | .from lo, m => Nat.ble lo m
  | .set ws m, n => ws.any (Nat.beq n) || Nat.ble m n

inductive Cls where
  | skip
  | n
  | r (R : List Nat)
  | a (nm : Nat)
  | w (W : Wr)
  deriving Inhabited

def Cls.isW : Cls → Bool
  | .w _ => true
  | _ => false

theorem Cls.isW_iff {c : Cls} (h : c.isW = true) : ∃ W, c = .w W := by
  cases c <;> first | exact ⟨_, rfl⟩ | cases h

structure Rec where
  T : Nat → AVal
  H : AHeap
  v : AVal
  c : Cls
  H' : AHeap
  deriving Inhabited

def RecOk (P : Program) (nt : Nat) (ops : Array Oper) (o : Oper) (r : Rec) : Prop :=
  match r.c with
  | .skip => AWanted nt ops r.T o false ∧ r.v = .tuple [] ∧ r.H' = r.H
  | .n => AWanted nt ops r.T o true ∧ OpN P nt o r.T r.v ∧ r.H' = r.H
  | .r R => AWanted nt ops r.T o true ∧ (∀ n ∈ R, n < r.H.length) ∧ (∀ H2 : AHeap, (∀ n ∈ R, H2[n]? = r.H[n]?) → OpS P nt o r.T H2 r.v H2) ∧ r.H' = r.H
  | .a nm => AWanted nt ops r.T o true ∧ nm = r.H.length ∧ ∃ ob, OpA P nt o r.T r.H.length r.v ob ∧ r.H' = r.H ++ [ob]
  | .w W => AWanted nt ops r.T o true ∧ OpS P nt o r.T r.H r.v r.H' ∧ r.H.length ≤ r.H'.length ∧ ∀ n, n < r.H'.length → W.hits n = false → n < r.H.length ∧ r.H'[n]? = r.H[n]?

/-- The operations one after the other, in the order of the text. -/
inductive Canon (P : Program) (nt : Nat) (ops : Array Oper) : List Oper → (Nat → AVal) → AHeap → List Rec → (Nat → AVal) → AHeap → Prop
  | nil (T : Nat → AVal) (H : AHeap) : Canon P nt ops [] T H [] T H
  | cons (o : Oper) (l : List Oper) (r : Rec) (tr : List Rec) (T' : Nat → AVal) (H' : AHeap) : RecOk P nt ops o r → Canon P nt ops l (updO r.T o.dst r.v) r.H' tr T' H' → Canon P nt ops (o :: l) r.T r.H (r :: tr) T' H'

/-! ### The check on the edges -/
def orB (M : List Nat) (i j : Nat) : Bool := (M.getD i 0).testBit j

def masks (ops : Array Oper) : List Nat :=
  ops.toList.foldl (fun acc o => acc ++ [o.after.toList.foldl (fun s e => if Region.binds .any e then s ||| 2 ^ e.on ||| acc.getD e.on 0 else s) 0]) []

def maskOk (ops : Array Oper) (M : List Nat) : Bool :=
  (List.range ops.size).all fun i => match ops[i]? with
    | none => true
    | some o => (o.after.toList.all fun e => !Region.binds .any e || decide (e.on < i)) &&
      (List.range ops.size).all fun j => !orB M i j || (o.after.toList.any fun e => Region.binds .any e && (e.on == j || orB M e.on j))

def clash (ops : Array Oper) (x y : Oper) : Bool :=
  (match x.dst with
   | some d => (y.looksAt ops).contains d || y.dst == some d
   | none => false) ||
  (match y.dst with
   | some d => (x.looksAt ops).contains d
   | none => false)

def hot : Cls → Cls → Bool
  | .w W, .r R | .r R, .w W => R.any W.hits
  | .a n, .r R | .r R, .a n => R.contains n
  | .w _, .a _ | .w _, .w _ | .a _, .w _ => true
  | _, _ => false

def regB (ops : Array Oper) (M : List Nat) (cs : List Cls) : Bool :=
  maskOk ops M && (List.range ops.size).all fun i => (List.range i).all fun j => orB M i j ||
    ((match ops[j]?, ops[i]? with
      | some x, some y => !clash ops x y
      | _, _ => true) && !hot (cs.getD j .skip) (cs.getD i .skip))

end Go.Proofs.YtennhanlcbibaaaGreatDoor.Lb

