/- What a run of the program in an abstract memory says of the machine: part 3. -/
import Derived.Test.YtennhanlcbibaaaGreatDoorL2
import Derived.Laws.Cells
import Derived.Laws.CopyRow
import Derived.Laws.Entries
import Derived.Laws.StructEq
/- Every order of a region whose edges pass the check comes to what the order of the text comes to. -/
namespace Go.Proofs.YtennhanlcbibaaaGreatDoor.Lb
open Go

theorem maskOk_spec {ops : Array Oper} {M : List Nat} (h : maskOk ops M = true) :
    (∀ i o, ops[i]? = some o → ∀ e ∈ o.after, Region.binds .any e = true → e.on < i) ∧
    (∀ i o j, ops[i]? = some o → j < ops.size → orB M i j = true → ∃ e ∈ o.after, Region.binds .any e = true ∧ (e.on = j ∨ orB M e.on j = true)) := by
  unfold maskOk at h
  rw [List.all_eq_true] at h
  have key : ∀ i o, ops[i]? = some o → (∀ e ∈ o.after, Region.binds .any e = true → e.on < i) ∧ (∀ j, j < ops.size → orB M i j = true → ∃ e ∈ o.after, Region.binds .any e = true ∧ (e.on = j ∨ orB M e.on j = true)) := by
    intro i o ho
    have hi : i < ops.size := (Array.getElem?_eq_some_iff.1 ho).1
    have h1 := h i (List.mem_range.2 hi)
    rw [ho] at h1
    simp only [Bool.and_eq_true, List.all_eq_true, Bool.or_eq_true, Bool.not_eq_true', decide_eq_true_eq, List.any_eq_true, beq_iff_eq, List.mem_range] at h1
    refine ⟨fun e he hb => ?_, fun j hj ho' => ?_⟩
    · rcases h1.1 e (by simpa using he) with h2 | h2
      · rw [hb] at h2; cases h2
      · exact h2
    · rcases h1.2 j hj with h2 | ⟨e, he, hb, h2⟩
      · rw [ho'] at h2; cases h2
      · exact ⟨e, by simpa using he, hb, h2⟩
  exact ⟨fun i o ho => (key i o ho).1, fun i o j ho => (key i o ho).2 j⟩

def Closed (ops : Array Oper) (lst : Array Bool) : Prop :=
  ∀ i o, lst.getD i false = true → ops[i]? = some o → ∀ e ∈ o.after, Region.binds .any e = true → lst.getD e.on false = true

theorem closed_or {ops : Array Oper} {M : List Nat} {lst : Array Bool} (hM : maskOk ops M = true) (hc : Closed ops lst) :
    ∀ (i : Nat) (o : Oper), ops[i]? = some o → (∀ e ∈ o.after, Region.binds .any e = true → lst.getD e.on false = true) → ∀ j, j < ops.size → orB M i j = true → lst.getD j false = true := by
  intro i
  induction i using Nat.strongRecOn with
  | _ i ih =>
    intro o ho he j hj hor
    obtain ⟨e, hem, hb, h | h⟩ := (maskOk_spec hM).2 i o j ho hj hor
    · rw [← h]; exact he e hem hb
    · have hlt := (maskOk_spec hM).1 i o ho e hem hb
      have hi : i < ops.size := (Array.getElem?_eq_some_iff.1 ho).1
      obtain ⟨o', ho'⟩ : ∃ o', ops[e.on]? = some o' := ⟨ops[e.on], Array.getElem?_eq_getElem (by omega)⟩
      exact ih e.on hlt o' ho' (hc e.on o' (he e hem hb) ho') j hj h

/-! ### Temporaries, some operations having been carried out -/
def foldT (ds : List (Option Nat × AVal)) (T : Nat → AVal) : Nat → AVal := ds.foldl (fun T p => updO T p.1 p.2) T

def curT (S : Nat → Bool) : Nat → List (Option Nat × AVal) → (Nat → AVal) → (Nat → AVal)
  | _, [], T => T
  | k, d :: ds, T => curT S (k + 1) ds (if S k then updO T d.1 d.2 else T)

theorem curT_take : ∀ (ds : List (Option Nat × AVal)) (k i : Nat) (T : Nat → AVal), curT (fun j => decide (j < k + i)) k ds T = foldT (ds.take i) T
  | [], k, i, T => by simp [curT, foldT]
  | d :: ds, k, 0, T => by
    simp only [curT, Nat.add_zero, Nat.lt_irrefl, decide_false, Bool.false_eq_true, if_false, List.take_zero]
    have : (fun j => decide (j < k)) = fun j => decide (j < k) := rfl
    have h := curT_none ds (k + 1) T (fun j => decide (j < k)) (fun j hj => by simp; omega)
    rw [h]; rfl
  | d :: ds, k, i + 1, T => by
    have h1 : k < k + (i + 1) := by omega
    simp only [curT, h1, decide_true, if_true, List.take_succ_cons]
    have h2 : (fun j => decide (j < k + (i + 1))) = fun j => decide (j < k + 1 + i) := by funext j; congr 1; rw [show k + (i + 1) = k + 1 + i from by omega]
    rw [h2, curT_take ds (k + 1) i]
    rfl
 where
  curT_none : ∀ (ds : List (Option Nat × AVal)) (k : Nat) (T : Nat → AVal) (S : Nat → Bool), (∀ j, k ≤ j → S j = false) → curT S k ds T = T
    | [], k, T, S, _ => rfl
    | d :: ds, k, T, S, h => by
      simp only [curT, h k (Nat.le_refl _), Bool.false_eq_true, if_false]
      exact curT_none ds (k + 1) T S (fun j hj => h j (by omega))

theorem curT_congr (t : Nat) : ∀ (ds : List (Option Nat × AVal)) (k : Nat) (S S' : Nat → Bool) (T T2 : Nat → AVal), (∀ j d, ds[j]? = some d → d.1 = some t → S (k + j) = S' (k + j)) → T t = T2 t → curT S k ds T t = curT S' k ds T2 t
  | [], k, S, S', T, T2, _, h => h
  | d :: ds, k, S, S', T, T2, h, ht => by
    simp only [curT]
    refine curT_congr t ds (k + 1) S S' _ _ (fun j d' e f => by have := h (j + 1) d' (by simpa using e) f; rwa [show k + (j + 1) = k + 1 + j from by omega] at this) ?_
    by_cases hd : d.1 = some t
    · have := h 0 d rfl hd
      simp only [Nat.add_zero] at this
      rw [this]
      split
      · simp [hd, updO, upd]
      · exact ht
    · have h1 : updO T d.1 d.2 t = T t := by
        cases e : d.1 with
        | none => rfl
        | some x => simp only [updO, upd]; rw [if_neg (fun f => hd (by rw [e, f]))]
      have h2 : updO T2 d.1 d.2 t = T2 t := by
        cases e : d.1 with
        | none => rfl
        | some x => simp only [updO, upd]; rw [if_neg (fun f => hd (by rw [e, f]))]
      split <;> split <;> simp only [h1, h2, ht]

theorem curT_last (t : Nat) : ∀ (ds : List (Option Nat × AVal)) (k i : Nat) (S : Nat → Bool) (T : Nat → AVal) (d : Option Nat × AVal), ds[i]? = some d → d.1 = some t → S (k + i) = true → (∀ j d', i < j → ds[j]? = some d' → d'.1 = some t → S (k + j) = false) → curT S k ds T t = d.2
  | [], k, i, S, T, d, e, _, _, _ => by simp at e
  | d0 :: ds, k, 0, S, T, d, e, hd, hS, hl => by
    simp at e
    subst e
    simp only [Nat.add_zero] at hS
    simp only [curT, hS, if_true]
    have h1 := curT_congr t ds (k + 1) S (fun _ => false) (updO T d0.1 d0.2) (updO T d0.1 d0.2) (fun j d' e f => by
      have := hl (j + 1) d' (by omega) (by simpa using e) f; rwa [show k + (j + 1) = k + 1 + j from by omega] at this) rfl
    rw [h1, curT_take.curT_none ds (k + 1) _ _ (fun _ _ => rfl)]
    simp [hd, updO, upd]
  | d0 :: ds, k, i + 1, S, T, d, e, hd, hS, hl => by
    simp only [curT]
    exact curT_last t ds (k + 1) i S _ d (by simpa using e) hd (by rwa [show k + (i + 1) = k + 1 + i from by omega] at hS) (fun j d' hj e f => by
      have := hl (j + 1) d' (by omega) (by simpa using e) f; rwa [show k + (j + 1) = k + 1 + j from by omega] at this)

/-! ### The canonical run, operation by operation -/
def hAt (tr : List Rec) (H' : AHeap) (i : Nat) : AHeap := ((tr[i]?).map (·.H)).getD H'

def dsOf (l : List Oper) (tr : List Rec) : List (Option Nat × AVal) := List.zipWith (fun o r => (o.dst, r.v)) l tr

theorem canon_len {P : Program} {nt : Nat} {ops : Array Oper} {l : List Oper} {T : Nat → AVal} {H : AHeap} {tr : List Rec} {T' : Nat → AVal} {H' : AHeap} (h : Canon P nt ops l T H tr T' H') : tr.length = l.length := by
  induction h with
  | nil => rfl
  | cons o l r tr T' H' _ _ ih => simp [ih]

theorem canon_head {P : Program} {nt : Nat} {ops : Array Oper} {l : List Oper} {T : Nat → AVal} {H : AHeap} {tr : List Rec} {T' : Nat → AVal} {H' : AHeap} (h : Canon P nt ops l T H tr T' H') : hAt tr H' 0 = H := by
  cases h <;> rfl

theorem canon_end {P : Program} {nt : Nat} {ops : Array Oper} {l : List Oper} {T : Nat → AVal} {H : AHeap} {tr : List Rec} {T' : Nat → AVal} {H' : AHeap} (h : Canon P nt ops l T H tr T' H') : T' = foldT (dsOf l tr) T := by
  induction h with
  | nil => rfl
  | cons o l r tr T' H' _ _ ih => simpa [dsOf, foldT] using ih

theorem canon_get {P : Program} {nt : Nat} {ops : Array Oper} {l : List Oper} {T : Nat → AVal} {H : AHeap} {tr : List Rec} {T' : Nat → AVal} {H' : AHeap} (h : Canon P nt ops l T H tr T' H') :
    ∀ (i : Nat) (o : Oper) (r : Rec), l[i]? = some o → tr[i]? = some r → RecOk P nt ops o r ∧ r.T = foldT ((dsOf l tr).take i) T ∧ hAt tr H' (i + 1) = r.H' := by
  induction h with
  | nil => intro i o r h; simp at h
  | cons o l r tr T' H' hr hc ih =>
    intro i o2 r2 ho hr2
    cases i with
    | zero =>
      simp at ho hr2
      subst ho hr2
      refine ⟨hr, rfl, ?_⟩
      have := canon_head hc
      simpa [hAt] using this
    | succ i =>
      obtain ⟨h1, h2, h3⟩ := ih i o2 r2 (by simpa using ho) (by simpa using hr2)
      exact ⟨h1, by simpa [dsOf, foldT] using h2, by simpa [hAt] using h3⟩

section
variable {P : Program} {nt : Nat} {ops : Array Oper} {T0 : Nat → AVal} {H0 : AHeap} {tr : List Rec} {T' : Nat → AVal} {H' : AHeap}

theorem canon_ops (hC : Canon P nt ops ops.toList T0 H0 tr T' H') {i : Nat} {o : Oper} (ho : ops[i]? = some o) : ∃ r, tr[i]? = some r ∧ RecOk P nt ops o r ∧ r.T = foldT ((dsOf ops.toList tr).take i) T0 ∧ hAt tr H' (i + 1) = r.H' ∧ hAt tr H' i = r.H := by
  have hl := canon_len hC
  have hi : i < ops.size := (Array.getElem?_eq_some_iff.1 ho).1
  obtain ⟨r, hr⟩ := getElem?_some_of_lt (l := tr) (i := i) (by rw [hl]; simpa using hi)
  obtain ⟨h1, h2, h3⟩ := canon_get hC i o r (by simpa using ho) hr
  exact ⟨r, hr, h1, h2, h3, by simp [hAt, hr]⟩

def clsAt (tr : List Rec) (i : Nat) : Cls := (tr.map (·.c)).getD i .skip

theorem clsAt_of {i : Nat} {r : Rec} (h : tr[i]? = some r) : clsAt tr i = r.c := by
  simp [clsAt, List.getD_eq_getElem?_getD, h]

/-- Between two operations where nothing is written the heap has grown at most. -/
theorem canon_grow (hC : Canon P nt ops ops.toList T0 H0 tr T' H') (i j : Nat) (hij : i ≤ j) (hj : j ≤ ops.size) (hw : ∀ m, i ≤ m → m < j → (clsAt tr m).isW = false) : ∃ L, hAt tr H' j = hAt tr H' i ++ L := by
  induction j with
  | zero => exact ⟨[], by simp [show i = 0 from by omega]⟩
  | succ j ih =>
    rcases Nat.lt_or_ge j i with h | h
    · exact ⟨[], by simp [show i = j + 1 from by omega]⟩
    · obtain ⟨L, hL⟩ := ih h (by omega) (fun m h1 h2 => hw m h1 (by omega))
      obtain ⟨o, ho⟩ : ∃ o, ops[j]? = some o := ⟨ops[j], Array.getElem?_eq_getElem (by omega)⟩
      obtain ⟨r, hr, hok, _, h3, h4⟩ := canon_ops hC ho
      have hc := hw j h (by omega)
      rw [clsAt_of hr] at hc
      rw [h3]
      unfold RecOk at hok
      cases hcc : r.c <;> simp only [hcc] at hok hc
      · rw [hok.2.2, ← h4, hL]; exact ⟨L, rfl⟩
      · rw [hok.2.2, ← h4, hL]; exact ⟨L, rfl⟩
      · rw [hok.2.2.2, ← h4, hL]; exact ⟨L, rfl⟩
      · obtain ⟨_, _, ob, _, h5⟩ := hok
        rw [h5, ← h4, hL]; exact ⟨L ++ [ob], by simp⟩
      · cases hc

/-- Where nobody writes object n, it stays. -/
theorem canon_same (hC : Canon P nt ops ops.toList T0 H0 tr T' H') (n i j : Nat) (hij : i ≤ j) (hj : j ≤ ops.size) (hn : n < (hAt tr H' i).length) (hw : ∀ m, i ≤ m → m < j → ∀ W, clsAt tr m = .w W → W.hits n = false) :
    n < (hAt tr H' j).length ∧ (hAt tr H' j)[n]? = (hAt tr H' i)[n]? := by
  induction j with
  | zero => obtain rfl : i = 0 := by omega
            exact ⟨hn, rfl⟩
  | succ j ih =>
    rcases Nat.lt_or_ge j i with h | h
    · obtain rfl : i = j + 1 := by omega
      exact ⟨hn, rfl⟩
    · obtain ⟨k1, k2⟩ := ih h (by omega) (fun m h1 h2 => hw m h1 (by omega))
      obtain ⟨o, ho⟩ : ∃ o, ops[j]? = some o := ⟨ops[j], Array.getElem?_eq_getElem (by omega)⟩
      obtain ⟨r, hr, hok, _, h3, h4⟩ := canon_ops hC ho
      have hc := hw j h (by omega)
      rw [clsAt_of hr] at hc
      rw [h3]
      rw [h4] at k1 k2
      unfold RecOk at hok
      cases hcc : r.c <;> simp only [hcc] at hok
      · rw [hok.2.2]; exact ⟨k1, k2⟩
      · rw [hok.2.2]; exact ⟨k1, k2⟩
      · rw [hok.2.2.2]; exact ⟨k1, k2⟩
      · obtain ⟨_, _, ob, _, h5⟩ := hok
        rw [h5]
        refine ⟨by simp; omega, ?_⟩
        rw [List.getElem?_append_left k1]; exact k2
      · obtain ⟨_, _, h5, h6⟩ := hok
        exact ⟨by omega, by rw [(h6 n (by omega) (hc _ hcc)).2]; exact k2⟩

theorem next_w (tr : List Rec) (lst : Array Bool) (n : Nat) : ∀ (d p : Nat), n - p = d → p ≤ n → (∀ j, j < p → (clsAt tr j).isW = true → lst.getD j false = true) →
    ∃ pe, p ≤ pe ∧ pe ≤ n ∧ (pe < n → (clsAt tr pe).isW = true ∧ lst.getD pe false = false) ∧ (∀ j, j < pe → (clsAt tr j).isW = true → lst.getD j false = true)
  | 0, p, hd, hp, h => ⟨p, Nat.le_refl _, hp, fun hlt => by omega, h⟩
  | d + 1, p, hd, hp, h => by
    by_cases hc : (clsAt tr p).isW = true ∧ lst.getD p false = false
    · exact ⟨p, Nat.le_refl _, hp, fun _ => hc, h⟩
    · obtain ⟨pe, h1, h2, h3, h4⟩ := next_w tr lst n d (p + 1) (by omega) (by omega) (fun j hj hw => by
        rcases Nat.lt_or_ge j p with h' | h'
        · exact h j h' hw
        · obtain rfl : j = p := by omega
          cases e : lst.getD j false with
          | true => rfl
          | false => exact absurd ⟨hw, e⟩ hc)
      exact ⟨pe, by omega, h2, h3, h4⟩

/-- How things stand when some operations have been carried out. -/
structure StR (g0 : G) (w0 : World) (H0 : AHeap) (nt : Nat) (ops : Array Oper) (T0 : Nat → AVal) (tr : List Rec) (H' : AHeap) (lst : Array Bool) (g : G) (a : Act) (w : World) (pe : Nat) : Prop where
  size : lst.size = ops.size
  closed : Closed ops lst
  le : pe ≤ ops.size
  here : pe < ops.size → (clsAt tr pe).isW = true ∧ lst.getD pe false = false
  behind : ∀ j, j < pe → (clsAt tr j).isW = true → lst.getD j false = true
  inv : Inv g w (hAt tr H' pe)
  fresh : ∀ j r, tr[j]? = some r → (∃ nm, r.c = .a nm) → j < pe → lst.getD j false = false → ∀ k, g.io r.H.length k = none
  low : ∀ j r, tr[j]? = some r → (∃ nm, r.c = .a nm) → j < pe → lst.getD j false = false → H0.length ≤ r.H.length
  ext : Ext g0 w0 H0 g w (hAt tr H' pe)
  tms : TRel g nt (curT (fun j => lst.getD j false) 0 (dsOf ops.toList tr) T0) a.tmps

theorem regB_spec {M : List Nat} {cs : List Cls} (h : regB ops M cs = true) : maskOk ops M = true ∧ ∀ i j x y, j < i → ops[j]? = some x → ops[i]? = some y → (clash ops x y = true ∨ hot (cs.getD j .skip) (cs.getD i .skip) = true) → orB M i j = true := by
  unfold regB at h
  simp only [Bool.and_eq_true, List.all_eq_true, List.mem_range] at h
  refine ⟨h.1, fun i j x y hj hx hy hc => ?_⟩
  have hi : i < ops.size := (Array.getElem?_eq_some_iff.1 hy).1
  have h2 := h.2 i hi j hj
  rw [hx, hy] at h2
  simp only [Bool.or_eq_true, Bool.and_eq_true, Bool.not_eq_true'] at h2
  rcases h2 with h2 | ⟨h2, h3⟩
  · exact h2
  · rcases hc with hc | hc
    · rw [h2] at hc; cases hc
    · rw [h3] at hc; cases hc

theorem getD_set (lst : Array Bool) (i j : Nat) (hi : i < lst.size) : (lst.setIfInBounds i true).getD j false = (if j = i then true else lst.getD j false) := by
  by_cases e : j = i
  · subst e; simp [hi]
  · rw [if_neg e, getD_set_ne false (fun h => e h.symm)]

theorem dsOf_get {l : List Oper} {tr : List Rec} {j : Nat} {d : Option Nat × AVal} (h : (dsOf l tr)[j]? = some d) : ∃ o r, l[j]? = some o ∧ tr[j]? = some r ∧ d = (o.dst, r.v) := by
  unfold dsOf at h
  rw [List.getElem?_zipWith] at h
  cases ho : l[j]? with
  | none => rw [ho] at h; simp at h
  | some o =>
    cases hr : tr[j]? with
    | none => rw [ho, hr] at h; simp at h
    | some r => rw [ho, hr] at h; simp at h; exact ⟨o, r, rfl, rfl, h.symm⟩

theorem aeval_congr {T T2 : Nat → AVal} (x : Operand) (h : ∀ t, x = .tmp t → T t = T2 t) : aeval nt T x = aeval nt T2 x := by
  cases x with
  | tmp t => simp only [aeval]; rw [h t rfl]
  | const v => unfold aeval; split <;> simp_all
  | global g => rfl
  | func f => rfl

theorem awanted_congr {T T2 : Nat → AVal} {o : Oper} {b : Bool} (h : ∀ t, t ∈ o.looksAt ops → T t = T2 t) (hw : AWanted nt ops T o b) : AWanted nt ops T2 o b := by
  unfold AWanted at *
  split
  · rename_i hg; rw [hg] at hw; exact hw
  · rename_i j want hg
    rw [hg] at hw
    obtain ⟨b', hy, e⟩ := hw
    refine ⟨b', ?_, e⟩
    rw [← hy]
    unfold ayielded
    cases hd : (ops[j]?).bind (·.dst) with
    | none => rfl
    | some t =>
      simp only
      rw [h t (by unfold Oper.looksAt; rw [hg]; simp [hd])]

/-- One operation, whichever may come next. -/
theorem str_step {M : List Nat} (hC : Canon P nt ops ops.toList T0 H0 tr T' H') (hB : regB ops M (tr.map (·.c)) = true) {g0 : G} {w0 : World} {lst : Array Bool} {g : G} {a : Act} {w : World} {pe i : Nat} (hs : StR g0 w0 H0 nt ops T0 tr H' lst g a w pe)
    (hr : i ∈ Region.ready .any ops lst) (b : Frame) (rest : List Nat) (k : List Item) (cs : List Frame) :
    ∃ g' a' w' pe', StR g0 w0 H0 nt ops T0 tr H' (lst.setIfInBounds i true) g' a' w' pe' ∧ a'.defers = a.defers ∧
      Steps P (lone (on b a (.inRegion ops (i :: rest) :: k)) cs w) (lone (on b a' (.inRegion ops rest :: k)) cs w') := by
  obtain ⟨hM, hor⟩ := regB_spec hB
  obtain ⟨hun, o, ho, hed⟩ := mem_ready.1 hr
  have hi : i < ops.size := (Array.getElem?_eq_some_iff.1 ho).1
  have hil : i < lst.size := by rw [hs.size]; exact hi
  have hif : lst.getD i false = false := by
    have h1 : lst.getD i true = lst[i] := by simp [Array.getD, hil]
    have h2 : lst.getD i false = lst[i] := by simp [Array.getD, hil]
    rw [h2, ← h1]; exact hun
  obtain ⟨r, hrr, hok, hT, hnext, hcur⟩ := canon_ops hC ho
  -- what stands before is done; what stands behind is not
  have K2 : ∀ j x, j < i → ops[j]? = some x → (clash ops x o = true ∨ hot (clsAt tr j) (clsAt tr i) = true) → lst.getD j false = true := fun j x hj hx hc =>
    closed_or hM hs.closed i o ho hed j (by omega) (hor i j x o hj hx ho hc)
  have K1 : ∀ j y, i < j → ops[j]? = some y → (clash ops o y = true ∨ hot (clsAt tr i) (clsAt tr j) = true) → lst.getD j false = false := fun j y hj hy hc => by
    cases e : lst.getD j false with
    | false => rfl
    | true =>
      have := closed_or hM hs.closed j y hy (hs.closed j y e hy) i hi (hor j i o y hj ho hy hc)
      rw [hif] at this; cases this
  -- the temporaries that the operation looks at are those of the text's order
  have hlook : ∀ t, t ∈ o.looksAt ops → r.T t = curT (fun j => lst.getD j false) 0 (dsOf ops.toList tr) T0 t := by
    intro t ht
    rw [hT, ← curT_take (dsOf ops.toList tr) 0 i T0]
    refine curT_congr t _ 0 _ _ _ _ (fun j d hd hdt => ?_) rfl
    obtain ⟨x, rx, hx, hrx, rfl⟩ := dsOf_get hd
    have hx' : ops[j]? = some x := by simpa using hx
    simp only [Nat.zero_add]
    simp only at hdt
    rcases Nat.lt_trichotomy j i with h | h | h
    · rw [K2 j x h hx' (.inl (by simp [clash, hdt, ht]))]; simpa using h
    · subst h; rw [hif]; simp
    · rw [K1 j x h hx' (.inl (by simp [clash, hdt, ht]))]; simp; omega
  have hE : ERel g nt r.T a o := fun x hx => by
    rw [aeval_congr (T2 := curT (fun j => lst.getD j false) 0 (dsOf ops.toList tr) T0) x (fun t e => hlook t (by
      subst e
      exact List.mem_append_left _ (List.mem_filterMap.2 ⟨.tmp t, by simpa using hx, rfl⟩)))]
    exact hs.tms.eval x
  have hwant : ∀ x, AWanted nt ops r.T o x → Region.wanted o (yielded ops a.tmps) = x := fun x hx => (awanted_congr hlook hx).wanted hs.tms
  -- the temporaries behind it
  have hput : ∀ (g' : G) (v' : Value), TRel g' nt (curT (fun j => lst.getD j false) 0 (dsOf ops.toList tr) T0) a.tmps → VRel g' r.v v' →
      TRel g' nt (curT (fun j => (lst.setIfInBounds i true).getD j false) 0 (dsOf ops.toList tr) T0) (a.put o.dst v').tmps := by
    intro g' v' ht hv
    have heq : curT (fun j => (lst.setIfInBounds i true).getD j false) 0 (dsOf ops.toList tr) T0 = updO (curT (fun j => lst.getD j false) 0 (dsOf ops.toList tr) T0) o.dst r.v := by
      funext t
      by_cases hd : o.dst = some t
      · have hds : (dsOf ops.toList tr)[i]? = some (o.dst, r.v) := by
          unfold dsOf; rw [List.getElem?_zipWith]; simp [ho, hrr]
        rw [curT_last t (dsOf ops.toList tr) 0 i _ T0 (o.dst, r.v) hds hd (by simp only [Nat.zero_add]; rw [getD_set _ _ _ hil]; simp) (fun j d' hj hd' hdt => by
          obtain ⟨x, rx, hx, hrx, rfl⟩ := dsOf_get hd'
          have hx' : ops[j]? = some x := by simpa using hx
          simp only at hdt
          simp only [Nat.zero_add]
          rw [getD_set _ _ _ hil, if_neg (by omega)]
          exact K1 j x hj hx' (.inl (by simp [clash, hd, hdt])))]
        simp [hd, updO, upd]
      · rw [curT_congr t (dsOf ops.toList tr) 0 _ (fun j => lst.getD j false) T0 T0 (fun j d hd' hdt => by
          obtain ⟨x, rx, hx, hrx, rfl⟩ := dsOf_get hd'
          have hx' : ops[j]? = some x := by simpa using hx
          simp only at hdt
          simp only [Nat.zero_add]
          rw [getD_set _ _ _ hil, if_neg (fun e => by subst e; rw [ho] at hx'; injection hx' with hx'; subst hx'; exact hd hdt)]) rfl]
        cases e : o.dst with
        | none => rfl
        | some x => simp only [updO, upd]; rw [if_neg (fun f => hd (by rw [e, f]))]
    rw [heq]
    exact ht.put o.dst hv
  have hclosed : Closed ops (lst.setIfInBounds i true) := by
    intro j x hj hx e he hb
    rw [getD_set _ _ _ hil] at hj ⊢
    split
    · rfl
    · split at hj
      · rename_i h; subst h
        rw [ho] at hx; injection hx with hx; subst hx
        exact hed e he hb
      · exact hs.closed j x hj hx e he hb
  have hsize : (lst.setIfInBounds i true).size = ops.size := by simp [hs.size]
  have hci := clsAt_of hrr
  have hpei : r.c.isW = false → pe ≠ i := fun hc e => by
    subst e
    have := (hs.here hi).1
    rw [hci, hc] at this; cases this
  have hlow : ∀ j r', tr[j]? = some r' → (∃ nm, r'.c = .a nm) → j < pe → (lst.setIfInBounds i true).getD j false = false → H0.length ≤ r'.H.length := fun j r' hj hc hp hl => by
    rw [getD_set _ _ _ hil] at hl
    split at hl
    · cases hl
    · exact hs.low j r' hj hc hp hl
  -- where the operation writes nothing, the phase goes on
  have stay : ∀ (g' : G) (a' : Act) (w' : World), r.c.isW = false → Inv g' w' (hAt tr H' pe) → (∀ j r', tr[j]? = some r' → (∃ nm, r'.c = .a nm) → j < pe → (lst.setIfInBounds i true).getD j false = false → ∀ k, g'.io r'.H.length k = none) → Ext g0 w0 H0 g' w' (hAt tr H' pe) →
      TRel g' nt (curT (fun j => (lst.setIfInBounds i true).getD j false) 0 (dsOf ops.toList tr) T0) a'.tmps → StR g0 w0 H0 nt ops T0 tr H' (lst.setIfInBounds i true) g' a' w' pe := by
    intro g' a' w' hc h1 h2 hx h3
    refine ⟨hsize, hclosed, hs.le, fun hlt => ⟨(hs.here hlt).1, ?_⟩, fun j hj hw => ?_, h1, h2, hlow, hx, h3⟩
    · rw [getD_set _ _ _ hil, if_neg (hpei hc)]; exact (hs.here hlt).2
    · rw [getD_set _ _ _ hil]; split
      · rfl
      · exact hs.behind j hj hw
  have hold : ∀ j r', tr[j]? = some r' → (∃ nm, r'.c = .a nm) → j < pe → (lst.setIfInBounds i true).getD j false = false → ∀ k, g.io r'.H.length k = none := fun j r' hj hc hp hl => by
    rw [getD_set _ _ _ hil] at hl
    split at hl
    · cases hl
    · exact hs.fresh j r' hj hc hp hl
  -- an r or an a stands in the phase

  have inphase : (∃ nm, r.c = .a nm) → i < pe ∧ ∀ m, i ≤ m → m < pe → (clsAt tr m).isW = false := by
    rintro ⟨nm, hc⟩
    have hnw : r.c.isW = false := by rw [hc]; rfl
    have hip : i < pe := by
      rcases Nat.lt_or_ge i pe with h | h
      · exact h
      · have hlt : pe < i := by have := hpei hnw; omega
        obtain ⟨x, hx⟩ : ∃ x, ops[pe]? = some x := ⟨ops[pe], Array.getElem?_eq_getElem (by omega)⟩
        have hw := hs.here (by omega)
        obtain ⟨W, hW⟩ := Cls.isW_iff hw.1
        have := K2 pe x hlt hx (.inr (by rw [hW, hci, hc]; rfl))
        rw [hw.2] at this; cases this
    refine ⟨hip, fun m h1 h2 => ?_⟩
    cases hw : (clsAt tr m).isW with
    | false => rfl
    | true =>
    exfalso
    obtain ⟨W, hW⟩ := Cls.isW_iff hw
    have hb := hs.behind m h2 hw
    rcases Nat.lt_or_ge i m with h | h
    · obtain ⟨x, hx⟩ : ∃ x, ops[m]? = some x := ⟨ops[m]'(by have := hs.le; omega), Array.getElem?_eq_getElem (by have := hs.le; omega)⟩
      have := K1 m x h hx (.inr (by rw [hW, hci, hc]; rfl))
      rw [hb] at this; cases this
    · obtain rfl : m = i := by omega
      rw [hci, hnw] at hw; cases hw
  unfold RecOk at hok
  cases hcc : r.c with
  | skip =>
    simp only [hcc] at hok
    obtain ⟨hw, hv, _⟩ := hok
    have hst := on_op_skip (P := P) (b := b) (a := a) (k := k) (cs := cs) (w := w) (ops := ops) (i := i) (rest := rest) (by rw [ho]; simpa using hwant _ hw)
    rw [ho] at hst
    exact ⟨g, a.put o.dst undef, w, pe, stay g _ w (by rw [hcc]; rfl) hs.inv hold hs.ext (hput g undef hs.tms (by rw [hv]; exact undef_rel g)), put_defers _ _ _, .one hst⟩
  | n =>
    simp only [hcc] at hok
    obtain ⟨hw, hn, _⟩ := hok
    obtain ⟨v', hv, hrun⟩ := hn.2 g a w hE
    exact ⟨g, a.put o.dst v', w, pe, stay g _ w (by rw [hcc]; rfl) hs.inv hold hs.ext (hput g v' hs.tms hv), put_defers _ _ _, .one (on_value ho (hwant _ hw) hn.1 hrun)⟩
  | r R =>
    simp only [hcc] at hok
    obtain ⟨hw, hRl, hop, _⟩ := hok
    have hple := hs.le
    have hag : ∀ n ∈ R, (hAt tr H' pe)[n]? = r.H[n]? := fun n hn => by
      have hnl := hRl n hn
      rw [← hcur] at hnl
      rw [← hcur]
      have hnoW : ∀ m, (i ≤ m ∧ m < pe) ∨ (pe ≤ m ∧ m < i) → ∀ W, clsAt tr m = .w W → W.hits n = false := fun m hm W hW => by
        cases hh : W.hits n with
        | false => rfl
        | true =>
        exfalso
        have hhot : R.any W.hits = true := List.any_eq_true.2 ⟨n, hn, hh⟩
        obtain ⟨x, hx⟩ : ∃ x, ops[m]? = some x := ⟨ops[m]'(by omega), Array.getElem?_eq_getElem (by omega)⟩
        rcases hm with ⟨h1, h2⟩ | ⟨h1, h2⟩
        · have hb := hs.behind m h2 (by rw [hW]; rfl)
          rcases Nat.lt_or_ge i m with h | h
          · have := K1 m x h hx (.inr (by rw [hW, hci, hcc]; exact hhot))
            rw [hb] at this; cases this
          · obtain rfl : m = i := by omega
            rw [hci, hcc] at hW; cases hW
        · have hd := K2 m x h2 hx (.inr (by rw [hW, hci, hcc]; exact hhot))
          -- a write from pe on that is done: none is
          obtain ⟨xp, hxp⟩ : ∃ x, ops[pe]? = some x := ⟨ops[pe]'(by omega), Array.getElem?_eq_getElem (by omega)⟩
          have hwp := hs.here (by omega)
          obtain ⟨Wp, hWp⟩ := Cls.isW_iff hwp.1
          rcases Nat.lt_or_ge pe m with h | h
          · have := closed_or hM hs.closed m x hx (hs.closed m x hd hx) pe (by omega) (hor m pe xp x h hxp hx (.inr (by
              show hot (clsAt tr pe) (clsAt tr m) = true
              rw [hWp, hW]; rfl)))
            rw [hwp.2] at this; cases this
          · obtain rfl : m = pe := by omega
            rw [hwp.2] at hd; cases hd
      rcases Nat.le_total i pe with h | h
      · exact (canon_same hC n i pe h hple hnl (fun m h1 h2 W hW => hnoW m (.inl ⟨h1, h2⟩) W hW)).2
      · -- the object is older than the phase, or the phase's own
        have hin : n < (hAt tr H' pe).length := by
          have key : ∀ d, ∀ m, m + d = i → pe ≤ m → n < (hAt tr H' m).length := by
            intro d
            induction d with
            | zero => intro m hm _; obtain rfl : m = i := by omega
                      exact hnl
            | succ d ih =>
              intro m hm hpm
              have hnext' := ih (m + 1) (by omega) (by omega)
              obtain ⟨om, hom⟩ : ∃ x, ops[m]? = some x := ⟨ops[m]'(by omega), Array.getElem?_eq_getElem (by omega)⟩
              obtain ⟨rm, hrm, hokm, _, h3, h4⟩ := canon_ops hC hom
              rw [h3] at hnext'
              rw [h4]
              unfold RecOk at hokm
              cases hcm : rm.c with
              | skip => simp only [hcm] at hokm; rw [hokm.2.2] at hnext'; exact hnext'
              | n => simp only [hcm] at hokm; rw [hokm.2.2] at hnext'; exact hnext'
              | r R' => simp only [hcm] at hokm; rw [hokm.2.2.2] at hnext'; exact hnext'
              | a nm =>
                simp only [hcm] at hokm
                obtain ⟨_, hnm, ob, _, hHm⟩ := hokm
                rw [hHm] at hnext'
                simp only [List.length_append, List.length_cons, List.length_nil] at hnext'
                rcases Nat.lt_or_ge n rm.H.length with h5 | h5
                · exact h5
                · exfalso
                  obtain rfl : n = nm := by omega
                  have hd := K2 m om (by omega) hom (.inr (by rw [clsAt_of hrm, hcm, hci, hcc]; simpa [hot] using hn))
                  obtain ⟨xp, hxp⟩ : ∃ x, ops[pe]? = some x := ⟨ops[pe]'(by omega), Array.getElem?_eq_getElem (by omega)⟩
                  have hwp := hs.here (by omega)
                  obtain ⟨Wp, hWp⟩ := Cls.isW_iff hwp.1
                  rcases Nat.lt_or_ge pe m with h6 | h6
                  · have := closed_or hM hs.closed m om hom (hs.closed m om hd hom) pe (by omega) (hor m pe xp om h6 hxp hom (.inr (by
                      show hot (clsAt tr pe) (clsAt tr m) = true
                      rw [hWp, clsAt_of hrm, hcm]; rfl)))
                    rw [hwp.2] at this; cases this
                  · obtain rfl : m = pe := by omega
                    rw [hwp.2] at hd; cases hd
              | w W =>
                simp only [hcm] at hokm
                obtain ⟨_, _, _, h6⟩ := hokm
                exact (h6 n hnext' (hnoW m (.inr ⟨hpm, by omega⟩) W (by rw [clsAt_of hrm]; exact hcm))).1
          exact key (i - pe) pe (by omega) (Nat.le_refl _)
        exact ((canon_same hC n pe i h (by omega) hin (fun m h1 h2 W hW => hnoW m (.inr ⟨h1, h2⟩) W hW)).2).symm
    have hinv := hs.inv
    obtain ⟨g', v', w', h1, h2, h3, h4⟩ := hop (hAt tr H' pe) hag g a w hinv hE b ops i rest k cs ho (hwant _ hw)
    refine ⟨g', a.put o.dst v', w', pe, stay g' _ w' (by rw [hcc]; rfl) h1 (fun j r' hj hc hp hl k => ?_) (hs.ext.trans h2) (hput g' v' (hs.tms.mono h2.le) h3), put_defers _ _ _, h4⟩
    cases e : g'.io r'.H.length k with
    | none => rfl
    | some t =>
      have hlen : r'.H.length < (hAt tr H' pe).length ∨ (hAt tr H' pe).length ≤ r'.H.length := by omega
      rcases hlen with hlen | hlen
      · obtain ⟨l, u, h5⟩ := h2.newname _ k t e hlen
        rw [hold j r' hj hc hp hl] at h5; cases h5
      · have := h1.dom _ _ _ e; omega
  | a nm =>
    simp only [hcc] at hok
    obtain ⟨hw, hnm, ob, hop, hH⟩ := hok
    obtain ⟨hip, hph⟩ := inphase ⟨nm, hcc⟩
    obtain ⟨L, hL⟩ := canon_grow hC (i + 1) pe (by omega) hs.le (fun m h1 h2 => hph m (by omega) h2)
    rw [hnext, hH] at hL
    have hfr := hs.fresh i r hrr ⟨nm, hcc⟩ hip hif
    have hlo := hs.low i r hrr ⟨nm, hcc⟩ hip hif
    obtain ⟨v', oc, N, hrun, hob, hv⟩ := hop.2.2 g a w hE hfr
    have hat : (hAt tr H' pe)[r.H.length]? = some ob := by rw [hL]; simp
    have h1 := inv_fill hs.inv hat hop.2.1 hfr hob
    have hle : g.le (g.add r.H.length 0 (some w.heap.size, N)) := G.le_add (hfr 0)
    have hio : ∀ {m l t}, (g.add r.H.length 0 (some w.heap.size, N)).io m l = some t → (m = r.H.length ∧ t = (some w.heap.size, N)) ∨ g.io m l = some t := by
      intro m l t h
      simp only [G.add] at h
      split at h
      · rename_i e; injection h with h; exact .inl ⟨e.1, h.symm⟩
      · exact .inr h
    have hx := hs.ext
    have hxx : Ext g0 w0 H0 (g.add r.H.length 0 (some w.heap.size, N)) (w.alloc oc) (hAt tr H' pe) := by
      refine ⟨hx.le.trans hle, ?_, hx.os, hx.tape, hx.output, fun c hc hn => ?_, fun m l c M h => ?_, hx.newim, hx.len, fun m l t h hm => ?_⟩
      · have := hx.size; simp; omega
      · rw [← hx.frame c hc hn]
        show (w.heap.push oc)[c]? = _
        have := hx.size
        rw [Array.getElem?_push, if_neg (by omega)]
      · rcases hio h with ⟨_, e⟩ | e
        · injection e with e _; injection e with e; have := hx.size; exact .inl (by omega)
        · exact hx.newio m l c M e
      · rcases hio h with ⟨e, _⟩ | e
        · omega
        · exact hx.newname m l t e hm
    refine ⟨_, a.put o.dst v', _, pe, stay _ _ _ (by rw [hcc]; rfl) h1 (fun j r' hj hc hp hl k => ?_) hxx (hput _ v' (hs.tms.mono hle) hv), put_defers _ _ _, .one (on_value ho (hwant _ hw) hop.1 hrun)⟩
    have hji : j ≠ i := fun e => by subst e; rw [getD_set _ _ _ hil] at hl; simp at hl
    have hlj : lst.getD j false = false := by rw [getD_set _ _ _ hil, if_neg hji] at hl; exact hl
    have hnone := hold j r' hj hc hp hl k
    have hjlen : j < tr.length := lt_of_getElem?_some hj
    have hjops : j < ops.size := by rw [canon_len hC] at hjlen; simpa using hjlen
    have hcj : hAt tr H' j = r'.H := by simp [hAt, hj]
    have hne : r'.H.length ≠ r.H.length := by
      rcases Nat.lt_or_gt_of_ne hji with h | h
      · -- j before i
        obtain ⟨oj, hoj⟩ : ∃ x, ops[j]? = some x := ⟨ops[j], Array.getElem?_eq_getElem hjops⟩
        obtain ⟨rj, hrj, hokj, _, hnj, _⟩ := canon_ops hC hoj
        rw [hj] at hrj; injection hrj with hrj; subst hrj
        unfold RecOk at hokj
        obtain ⟨nmj, hc⟩ := hc
        simp only [hc] at hokj
        obtain ⟨_, _, obj, _, hHj⟩ := hokj
        have hphj : ∀ m, j + 1 ≤ m → m < i → (clsAt tr m).isW = false := fun m h1 h2 => by
          cases hw' : (clsAt tr m).isW with
          | false => rfl
          | true =>
          exfalso
          obtain ⟨W', hW'⟩ := Cls.isW_iff hw'
          have hb := hs.behind m (by omega) hw'
          obtain ⟨x, hx'⟩ : ∃ x, ops[m]? = some x := ⟨ops[m]'(by omega), Array.getElem?_eq_getElem (by omega)⟩
          have := closed_or hM hs.closed m x hx' (hs.closed m x hb hx') j hjops (hor m j oj x (by omega) hoj hx' (.inr (by
            have h3 : hot (clsAt tr j) (clsAt tr m) = true := by rw [hW', clsAt_of hj, hc]; rfl
            exact h3)))
          rw [hlj] at this; cases this
        obtain ⟨Lj, hLj⟩ := canon_grow hC (j + 1) i (by omega) (by omega) hphj
        rw [hnj, hHj, hcur] at hLj
        rw [hLj]; simp
      · obtain ⟨Lj, hLj⟩ := canon_grow hC (i + 1) j (by omega) (by omega) (fun m h1 h2 => hph m (by omega) (by omega))
        rw [hnext, hH, hcj] at hLj
        rw [hLj]; simp
    cases e : (g.add r.H.length 0 (some w.heap.size, N)).io r'.H.length k with
    | none => rfl
    | some t =>
      rcases hio e with ⟨e1, _⟩ | e1
      · exact absurd e1 hne
      · rw [hnone] at e1; cases e1
  | w W =>
    simp only [hcc] at hok
    obtain ⟨hw, hop, _⟩ := hok
    have hpi : pe = i := by
      have h1 : pe ≤ i := by
        rcases Nat.lt_or_ge i pe with h | h
        · have := hs.behind i h (by rw [hci, hcc]; rfl); rw [hif] at this; cases this
        · exact h
      rcases Nat.lt_or_ge pe i with h | h
      · obtain ⟨x, hx⟩ : ∃ x, ops[pe]? = some x := ⟨ops[pe], Array.getElem?_eq_getElem (by omega)⟩
        have hwp := hs.here (by omega)
        obtain ⟨Wp, hWp⟩ := Cls.isW_iff hwp.1
        have := K2 pe x h hx (.inr (by rw [hWp, hci, hcc]; rfl))
        rw [hwp.2] at this; cases this
      · omega
    subst hpi
    have hinv := hs.inv
    rw [hcur] at hinv
    obtain ⟨g', v', w', h1, h2, h3, h4⟩ := hop g a w hinv hE b ops pe rest k cs ho (hwant _ hw)
    obtain ⟨pe', hp1, hp2, hp3, hp4⟩ := next_w tr (lst.setIfInBounds pe true) ops.size (ops.size - (pe + 1)) (pe + 1) rfl (by omega) (fun j hj hw' => by
      rw [getD_set _ _ _ hil]
      split
      · rfl
      · exact hs.behind j (by omega) hw')
    have hnow : ∀ m, pe + 1 ≤ m → m < pe' → (clsAt tr m).isW = false := fun m h5 h6 => by
      cases hw' : (clsAt tr m).isW with
      | false => rfl
      | true =>
      exfalso
      obtain ⟨W', hW'⟩ := Cls.isW_iff hw'
      have h7 := hp4 m h6 hw'
      rw [getD_set _ _ _ hil, if_neg (by omega)] at h7
      obtain ⟨x, hx⟩ : ∃ x, ops[m]? = some x := ⟨ops[m]'(by omega), Array.getElem?_eq_getElem (by omega)⟩
      have := K1 m x (by omega) hx (.inr (by rw [hW', hci, hcc]; rfl))
      rw [h7] at this; cases this
    obtain ⟨L, hL⟩ := canon_grow hC (pe + 1) pe' hp1 hp2 hnow
    rw [hnext] at hL
    have hxe := hs.ext
    rw [hcur] at hxe
    have hx' := hxe.trans h2
    have hx3 : Ext g0 w0 H0 g' w' (hAt tr H' pe') := by
      rw [hL]
      exact ⟨hx'.le, hx'.size, hx'.os, hx'.tape, hx'.output, hx'.frame, hx'.newio, hx'.newim, by have := hx'.len; simp; omega, hx'.newname⟩
    have hafter : ∀ j r', tr[j]? = some r' → (∃ nm, r'.c = .a nm) → j < pe' → (lst.setIfInBounds pe true).getD j false = false → r.H'.length ≤ r'.H.length := fun j r' hj hc hp hl => by
      have hji : j ≠ pe := fun e => by subst e; rw [getD_set _ _ _ hil] at hl; simp at hl
      have hlj : lst.getD j false = false := by rw [getD_set _ _ _ hil, if_neg hji] at hl; exact hl
      have hjops : j < ops.size := by omega
      have hcj : hAt tr H' j = r'.H := by simp [hAt, hj]
      rcases Nat.lt_or_ge j pe with h | h
      · obtain ⟨x, hx⟩ : ∃ x, ops[j]? = some x := ⟨ops[j], Array.getElem?_eq_getElem hjops⟩
        obtain ⟨nmj, hc⟩ := hc
        have := K2 j x h hx (.inr (by rw [hci, hcc, clsAt_of hj, hc]; rfl))
        rw [hlj] at this; cases this
      · obtain ⟨Lj, hLj⟩ := canon_grow hC (pe + 1) j (by omega) (by omega) (fun m h5 h6 => hnow m h5 (by omega))
        rw [hnext, hcj] at hLj
        rw [hLj]; simp
    refine ⟨g', a.put o.dst v', w', pe', ⟨hsize, hclosed, hp2, hp3, hp4, ?_, fun j r' hj hc hp hl k => ?_, fun j r' hj hc hp hl => ?_, hx3, hput g' v' (hs.tms.mono h2.le) h3⟩, put_defers _ _ _, h4⟩
    · rw [hL]; exact inv_more L h1
    · exact io_none_of_dom h1 (hafter j r' hj hc hp hl)
    · have := hafter j r' hj hc hp hl
      have := hx'.len
      omega

/-- All operations are listed when none is ready. -/
theorem all_listed {M : List Nat} {lst : Array Bool} (hM : maskOk ops M = true) (hsz : lst.size = ops.size) (hr : Region.ready .any ops lst = []) : ∀ i, i < ops.size → lst.getD i true = true := by
  intro i
  induction i using Nat.strongRecOn with
  | _ i ih =>
    intro hi
    cases e : lst.getD i true with
    | true => rfl
    | false =>
      have : i ∈ Region.ready .any ops lst := mem_ready.2 ⟨e, ops[i], Array.getElem?_eq_getElem hi, fun ed hed hb => by
        have hlt := (maskOk_spec hM).1 i ops[i] (Array.getElem?_eq_getElem hi) ed hed hb
        have h1 := ih ed.on hlt (by omega)
        have h2 : ed.on < lst.size := by omega
        have e1 : lst.getD ed.on true = lst[ed.on] := by simp [Array.getD, h2]
        have e2 : lst.getD ed.on false = lst[ed.on] := by simp [Array.getD, h2]
        rw [e2, ← e1]; exact h1⟩
      rw [hr] at this; cases this

def unl (lst : Array Bool) : Nat → Nat
  | 0 => 0
  | n + 1 => unl lst n + (if lst.getD n true then 0 else 1)

theorem unl_zero {lst : Array Bool} : ∀ (n : Nat), unl lst n = 0 → ∀ i, i < n → lst.getD i true = true
  | 0, _, i, hi => by omega
  | n + 1, h, i, hi => by
    simp only [unl] at h
    rcases Nat.lt_or_ge i n with h1 | h1
    · exact unl_zero n (by omega) i h1
    · obtain rfl : i = n := by omega
      cases e : lst.getD i true with
      | true => rfl
      | false => rw [e] at h; simp at h

theorem unl_set {lst : Array Bool} {i : Nat} (hi : lst.getD i true = false) (hsz : i < lst.size) : ∀ (n : Nat), unl (lst.setIfInBounds i true) n + (if i < n then 1 else 0) = unl lst n
  | 0 => rfl
  | n + 1 => by
    have ih := unl_set hi hsz n
    simp only [unl]
    by_cases e : n = i
    · subst e
      have h1 : (lst.setIfInBounds n true).getD n true = true := by simp [hsz]
      rw [h1, hi]
      rw [if_neg (Nat.lt_irrefl n)] at ih
      rw [if_pos (Nat.lt_succ_self n)]
      simp; omega
    · have h1 : (lst.setIfInBounds i true).getD n true = lst.getD n true := getD_set_ne true (fun h => e h.symm)
      rw [h1]
      by_cases h2 : i < n
      · have h3 : i < n + 1 := by omega
        simp only [h2, if_true] at ih; simp only [h3, if_true]; omega
      · have h3 : ¬ i < n + 1 := by omega
        simp only [h2, if_false] at ih; simp only [h3, if_false]; omega

theorem str_all {M : List Nat} (hC : Canon P nt ops ops.toList T0 H0 tr T' H') (hB : regB ops M (tr.map (·.c)) = true) {g0 : G} {w0 : World} (b : Frame) (k : List Item) (cs : List Frame) :
    ∀ (fuel t : Nat) (lst : Array Bool) (g : G) (a : Act) (w : World) (pe : Nat), StR g0 w0 H0 nt ops T0 tr H' lst g a w pe → unl lst ops.size ≤ fuel →
      ∃ g' a' w', Inv g' w' H' ∧ Ext g0 w0 H0 g' w' H' ∧ TRel g' nt T' a'.tmps ∧ a'.defers = a.defers ∧
        Steps P (lone (on b a (.inRegion ops (Region.linearise.go .any ops fuel t lst []) :: k)) cs w) (lone (on b a' k) cs w') := by
  have hM := (regB_spec hB).1
  have done : ∀ (lst : Array Bool) (g : G) (a : Act) (w : World) (pe : Nat), StR g0 w0 H0 nt ops T0 tr H' lst g a w pe → (∀ i, i < ops.size → lst.getD i true = true) → Inv g w H' ∧ Ext g0 w0 H0 g w H' ∧ TRel g nt T' a.tmps := by
    intro lst g a w pe hs hall
    have hall' : ∀ i, i < ops.size → lst.getD i false = true := fun i hi => by
      have h1 := hall i hi
      have h2 : i < lst.size := by rw [hs.size]; exact hi
      have e1 : lst.getD i true = lst[i] := by simp [Array.getD, h2]
      have e2 : lst.getD i false = lst[i] := by simp [Array.getD, h2]
      rw [e2, ← e1]; exact h1
    have hpe : pe = ops.size := by
      rcases Nat.lt_or_ge pe ops.size with h | h
      · have h1 := (hs.here h).2; rw [hall' pe h] at h1; cases h1
      · have := hs.le; omega
    have hH : hAt tr H' ops.size = H' := by
      have := canon_len hC
      simp [hAt, List.getElem?_eq_none (show tr.length ≤ ops.size by rw [this]; simp)]
    have h1 := hs.inv
    have h2 := hs.ext
    rw [hpe, hH] at h1 h2
    refine ⟨h1, h2, ?_⟩
    have h3 := hs.tms
    have hlen : (dsOf ops.toList tr).length = ops.size := by simp [dsOf, canon_len hC]
    have : curT (fun j => lst.getD j false) 0 (dsOf ops.toList tr) T0 = T' := by
      rw [canon_end hC]
      funext x
      rw [curT_congr x (dsOf ops.toList tr) 0 (fun j => lst.getD j false) (fun j => decide (j < 0 + ops.size)) T0 T0 (fun j d hd _ => by
        have hj := lt_of_getElem?_some hd
        rw [hlen] at hj
        simp only [Nat.zero_add]
        rw [hall' j hj]; simp [hj]) rfl]
      rw [curT_take, List.take_of_length_le (by omega)]
    rw [this] at h3
    exact h3
  intro fuel
  induction fuel with
  | zero =>
    intro t lst g a w pe hs hu
    obtain ⟨h1, h2, h3⟩ := done lst g a w pe hs (unl_zero ops.size (by omega))
    exact ⟨g, a, w, h1, h2, h3, rfl, by simpa [Region.linearise.go] using Steps.one on_region_end⟩
  | succ fuel ih =>
    intro t lst g a w pe hs hu
    simp only [Region.linearise.go]
    change ∃ g' a' w', Inv g' w' H' ∧ Ext g0 w0 H0 g' w' H' ∧ TRel g' nt T' a'.tmps ∧ a'.defers = a.defers ∧
      Steps P (lone (on b a (.inRegion ops (match (Region.ready .any ops lst)[t % (Region.ready .any ops lst).length]? with
        | some i => Region.linearise.go .any ops fuel (t / (Region.ready .any ops lst).length) (lst.setIfInBounds i true) [i]
        | none => [].reverse) :: k)) cs w) (lone (on b a' k) cs w')
    cases hi : (Region.ready .any ops lst)[t % (Region.ready .any ops lst).length]? with
    | none =>
      have hnil : Region.ready .any ops lst = [] := by
        cases hr : Region.ready .any ops lst with
        | nil => rfl
        | cons x xs =>
          rw [hr] at hi
          have hlt : t % (x :: xs).length < (x :: xs).length := Nat.mod_lt _ (by simp)
          simp at hi
          simp at hlt
          omega
      obtain ⟨h1, h2, h3⟩ := done lst g a w pe hs (all_listed hM hs.size hnil)
      exact ⟨g, a, w, h1, h2, h3, rfl, by simpa using Steps.one on_region_end⟩
    | some i =>
      have hmem := List.mem_of_getElem? hi
      obtain ⟨hun, o, ho, _⟩ := mem_ready.1 hmem
      have hisz : i < ops.size := (Array.getElem?_eq_some_iff.1 ho).1
      simp only []
      rw [linearise_go_acc, List.reverse_singleton, List.singleton_append]
      obtain ⟨g', a', w', pe', hs', hd', hst⟩ := str_step hC hB hs hmem b (Region.linearise.go .any ops fuel (t / (Region.ready .any ops lst).length) (lst.setIfInBounds i true) []) k cs
      have hul := unl_set hun (by rw [hs.size]; exact hisz) ops.size
      rw [if_pos hisz] at hul
      obtain ⟨g2, a2, w2, h1, h2, h3, h4, h5⟩ := ih _ (lst.setIfInBounds i true) g' a' w' pe' hs' (by omega)
      exact ⟨g2, a2, w2, h1, h2, h3, h4.trans hd', hst.trans h5⟩

/-- A region that draws its order. -/
theorem code_draw {r : Option Nat} {D : List Nat} {Q : Ex → (Nat → AVal) → AHeap → List Nat → Prop} {id : Nat} {M : List Nat} (hm : P.follows .mixedOrders = true) (hC : Canon P nt ops ops.toList T0 H0 tr T' H') (hB : regB ops M (tr.map (·.c)) = true) (hq : Q .normal T' H' D) :
    CodeS P nt r (.region id ops true) T0 H0 D Q := by
  intro g a w hi ht hd b k cs hr
  let w1 : World := { w with drawn := w.drawn + 1 }
  have i1 : Inv g w1 H0 := inv_drawn hi rfl
  have x1 : Ext g w H0 g w1 H0 := ext_drawn rfl rfl rfl rfl
  have hH0 := canon_head hC
  obtain ⟨pe, _, hp2, hp3, hp4⟩ := next_w tr (Array.replicate ops.size false) ops.size ops.size 0 (by omega) (by omega) (fun j hj => by omega)
  have hfalse : ∀ j, (Array.replicate ops.size false).getD j false = false := fun j => by
    simp [Array.getD]
  have hnow : ∀ m, 0 ≤ m → m < pe → (clsAt tr m).isW = false := fun m _ h => by
    cases hw : (clsAt tr m).isW with
    | false => rfl
    | true => have := hp4 m h hw; rw [hfalse] at this; cases this
  obtain ⟨L, hL⟩ := canon_grow hC 0 pe (by omega) hp2 hnow
  rw [hH0] at hL
  have hcl : Closed ops (Array.replicate ops.size false) := fun i o h => by rw [hfalse] at h; cases h
  have hlow : ∀ j r', tr[j]? = some r' → (∃ nm, r'.c = .a nm) → j < pe → H0.length ≤ r'.H.length := fun j r' hj hc hp => by
    obtain ⟨Lj, hLj⟩ := canon_grow hC 0 j (by omega) (by omega) (fun m h1 h2 => hnow m h1 (by omega))
    have hcj : hAt tr H' j = r'.H := by simp [hAt, hj]
    rw [hH0, hcj] at hLj
    rw [hLj]; simp
  have hs : StR g w1 H0 nt ops T0 tr H' (Array.replicate ops.size false) g a w1 pe := by
    refine ⟨by simp, hcl, hp2, hp3, hp4, by rw [hL]; exact inv_more L i1, fun j r' hj hc hp _ k => io_none_of_dom i1 (hlow j r' hj hc hp), fun j r' hj hc hp _ => hlow j r' hj hc hp, ?_, ?_⟩
    · rw [hL]
      have := Ext.refl g w1 H0
      exact ⟨this.le, this.size, this.os, this.tape, this.output, this.frame, this.newio, this.newim, by simp, this.newname⟩
    · have : curT (fun j => (Array.replicate ops.size false).getD j false) 0 (dsOf ops.toList tr) T0 = T0 := curT_take.curT_none _ _ _ _ (fun j _ => hfalse j)
      rw [this]; exact ht
  have hun : unl (Array.replicate ops.size false) ops.size ≤ ops.size := by
    have : ∀ n, unl (Array.replicate ops.size false) n ≤ n := fun n => by
      induction n with
      | zero => exact Nat.le_refl _
      | succ n ih => simp only [unl]; split <;> omega
    exact this _
  obtain ⟨g2, a2, w2, h1, h2, h3, h4, h5⟩ := str_all hC hB b k cs ops.size (w.tape w.drawn (.order b.fn id)) (Array.replicate ops.size false) g a w1 pe hs hun
  refine ⟨.normal, T', H', D, g2, a2, w2, hq, h1, x1.trans h2, h3, ?_, .head on_region_draw ?_⟩
  · rw [h4]; exact hd.mono h2.le
  · simp only [Region.schedule, hm, Bool.true_or, if_true]
    exact h5
end
end Go.Proofs.YtennhanlcbibaaaGreatDoor.Lb

/- Operations: numbers, truth values, strings; parts of structs; loads and stores. -/
namespace Go.Proofs.YtennhanlcbibaaaGreatDoor.Lb
open Go

/-! ### Types -/
/-- How many cells a type has, and whether it has parts. -/
def tyA (P : Program) (t : TypeId) : Option (Nat × Bool) :=
  match P.info? t, P.underlying t with
  | some i, some d => some (i.size, match d with | .struct _ | .array _ _ => true | _ => false)
  | _, _ => none

theorem run_tyA {P : Program} {t : TypeId} {s : Nat} {ag : Bool} (h : tyA P t = some (s, ag)) (w : World) : (isAgg t).run P w = .ok ag w ∧ (sizeOf t).run P w = .ok s w := by
  unfold tyA at h
  split at h
  · rename_i i d hi hd
    injection h with h
    injection h with h1 h2
    subst h1 h2
    constructor
    · simp only [isAgg, Sem.run_bind, run_underlying hd, Result.andThen_ok]
      cases d <;> rfl
    · simp [sizeOf, typeInfo, hi]
  · cases h

/-- Field f of a struct type: where it lies, how many cells it has, whether it has parts. -/
def fldA (P : Program) (t : TypeId) (f : Nat) : Option (Nat × Nat × Bool) :=
  match P.underlying t with
  | some (.struct fs) => match fs[f]? with
    | some fd => (tyA P fd.type).map fun x => (fd.offset, x.1, x.2)
    | none => none
  | _ => none

theorem fldA_spec {P : Program} {t : TypeId} {f off s : Nat} {ag : Bool} (h : fldA P t f = some (off, s, ag)) : ∃ fs fd, P.underlying t = some (.struct fs) ∧ fs[f]? = some fd ∧ fd.offset = off ∧ tyA P fd.type = some (s, ag) := by
  unfold fldA at h
  split at h
  · rename_i fs hfs
    split at h
    · rename_i fd hfd
      obtain ⟨x, hx, e⟩ := Option.map_eq_some_iff.1 h
      obtain ⟨s', ag'⟩ := x
      injection e with e1 e2
      injection e2 with e2 e3
      simp only at e1 e2 e3
      subst e1 e2 e3
      exact ⟨fs, fd, hfs, hfd, rfl, hx⟩
    · cases h
  · cases h

/-- The element type of a slice type: its number, its cells, whether it has parts, its bytes. -/
def elA (P : Program) (t : TypeId) : Option (TypeId × Nat × Bool × Nat) :=
  match P.underlying t with
  | some (.slice e) => match P.info? e, tyA P e with
    | some i, some x => some (e, x.1, x.2, i.bytes)
    | _, _ => none
  | _ => none

theorem elA_spec {P : Program} {t e : TypeId} {s b : Nat} {ag : Bool} (h : elA P t = some (e, s, ag, b)) : ∃ i, P.underlying t = some (.slice e) ∧ P.info? e = some i ∧ i.size = s ∧ i.bytes = b ∧ tyA P e = some (s, ag) := by
  unfold elA at h
  split at h
  · rename_i e' he
    split at h
    · rename_i i x hi hx
      injection h with h
      injection h with h1 h2
      injection h2 with h2 h3
      injection h3 with h3 h4
      subst h1 h2 h3 h4
      refine ⟨i, he, hi, ?_, rfl, by rw [hx]⟩
      unfold tyA at hx
      rw [hi] at hx
      split at hx
      · rename_i i' d hi' hd; injection hi' with hi'; subst hi'; injection hx with hx; rw [← hx]
      · cases hx
    · cases h
  · cases h

/-- The element type of an array type: how many, its cells, whether it has parts. -/
def arA (P : Program) (t : TypeId) : Option (Nat × Nat × Bool) :=
  match P.underlying t with
  | some (.array n e) => (tyA P e).map fun x => (n, x.1, x.2)
  | _ => none

theorem arA_spec {P : Program} {t : TypeId} {n s : Nat} {ag : Bool} (h : arA P t = some (n, s, ag)) : ∃ e, P.underlying t = some (.array n e) ∧ tyA P e = some (s, ag) := by
  unfold arA at h
  split at h
  · rename_i n' e he
    obtain ⟨x, hx, e2⟩ := Option.map_eq_some_iff.1 h
    obtain ⟨s', ag'⟩ := x
    injection e2 with e1 e2
    injection e2 with e2 e3
    simp only at e1 e2 e3
    subst e1 e2 e3
    exact ⟨e, he, hx⟩
  · cases h

/-! ### Plain operations -/
section
variable {P : Program} {nt : Nat} {o : Oper} {T : Nat → AVal}

theorem opn_move {x : Operand} {v : AVal} (ho : o.op = .move x ∨ o.op = .assign x) (hx : aeval nt T x = v) : OpN P nt o T v := by
  refine ⟨(fun c e => by rcases ho with h | h <;> rw [h] at e <;> cases e), fun g a w he => ?_⟩
  have h1 : x ∈ o.op.operands := by rcases ho with h | h <;> rw [h] <;> simp [Op.operands]
  refine ⟨a.eval x, by rw [← hx]; exact he x h1, ?_⟩
  rcases ho with h | h <;> simp [execOp, h]

theorem opn_pick {c x y : Operand} {b : Bool} {v : AVal} (ho : o.op = .pick c x y) (hc : aeval nt T c = .bool b) (hv : (if b then aeval nt T x else aeval nt T y) = v) : OpN P nt o T v := by
  refine ⟨(fun c e => by rw [ho] at e; cases e), fun g a w he => ?_⟩
  have h1 := he c (by rw [ho]; simp [Op.operands])
  rw [hc] at h1
  have h2 : a.eval c = .bool b := by generalize a.eval c = u at h1; cases h1; rfl
  refine ⟨if b then a.eval x else a.eval y, ?_, ?_⟩
  · rw [← hv]
    cases b
    · exact he y (by rw [ho]; simp [Op.operands])
    · exact he x (by rw [ho]; simp [Op.operands])
  · simp [execOp, ho, h2, asBool]

/-- What a binary operation on whole numbers, truth values or strings comes to. -/
def binA : BinOp → AVal → AVal → Option AVal
  | .add, .int k a, .int k' b => if k = k' then some (.int k (k.wrap (a + b))) else none
  | .sub, .int k a, .int k' b => if k = k' then some (.int k (k.wrap (a - b))) else none
  | .mul, .int k a, .int k' b => if k = k' then some (.int k (k.wrap (a * b))) else none
  | .eql, .int k a, .int k' b => if k = k' then some (.bool (a == b)) else none
  | .neq, .int k a, .int k' b => if k = k' then some (.bool (a != b)) else none
  | .lss, .int k a, .int k' b => if k = k' then some (.bool (decide (a < b))) else none
  | .leq, .int k a, .int k' b => if k = k' then some (.bool (decide (a ≤ b))) else none
  | .gtr, .int k a, .int k' b => if k = k' then some (.bool (decide (a > b))) else none
  | .geq, .int k a, .int k' b => if k = k' then some (.bool (decide (a ≥ b))) else none
  | .and, .int k a, .int k' b => if k = k' then some (.int k (k.wrap (BitVec.ofInt k.bits a &&& BitVec.ofInt k.bits b).toNat)) else none
  | .or, .int k a, .int k' b => if k = k' then some (.int k (k.wrap (BitVec.ofInt k.bits a ||| BitVec.ofInt k.bits b).toNat)) else none
  | .xor, .int k a, .int k' b => if k = k' then some (.int k (k.wrap (BitVec.ofInt k.bits a ^^^ BitVec.ofInt k.bits b).toNat)) else none
  | .eql, .str a, .str b => some (.bool (a.toList == b.toList))
  | .neq, .str a, .str b => some (.bool (!(a.toList == b.toList)))
  | _, _, _ => none

theorem opn_bin {b : BinOp} {xt yt : TypeId} {x y : Operand} {v : AVal} (ho : o.op = .binOp b xt x y yt) (hv : binA b (aeval nt T x) (aeval nt T y) = some v) : OpN P nt o T v := by
  refine ⟨(fun c e => by rw [ho] at e; cases e), fun g a w he => ?_⟩
  have h1 := he x (by rw [ho]; simp [Op.operands])
  have h2 := he y (by rw [ho]; simp [Op.operands])
  generalize hx : aeval nt T x = ax at *
  generalize hy : aeval nt T y = ay at *
  generalize hx' : a.eval x = vx at *
  generalize hy' : a.eval y = vy at *
  unfold binA at hv
  split at hv <;> first | (cases hv; done) | skip
  all_goals
    cases h1; cases h2
    first
      | (split at hv
         · rename_i e
           injection hv with hv
           subst hv
           first | subst e | skip
           first
             | exact ⟨_, .int _ _, by simp [execOp, ho, hx', hy', eqGuard, binOp, Op.intArith, Op.intBits, Op.intCmp]⟩
             | exact ⟨_, .bool _, by simp [execOp, ho, hx', hy', eqGuard, binOp, Op.intArith, Op.intBits, Op.intCmp]⟩
         · cases hv)
      | (injection hv with hv
         subst hv
         exact ⟨_, .bool _, by simp [execOp, ho, hx', hy', eqGuard, binOp, Op.stringOp]⟩)

theorem opn_cat {xt yt : TypeId} {x y : Operand} {s t : ByteArray} (ho : o.op = .binOp .add xt x y yt) (hx : aeval nt T x = .str s) (hy : aeval nt T y = .str t) (hl : s.size + t.size ≤ 9223372036854775807) : OpN P nt o T (.str (s ++ t)) := by
  refine ⟨(fun c e => by rw [ho] at e; cases e), fun g a w he => ?_⟩
  have h1 := he x (by rw [ho]; simp [Op.operands])
  have h2 := he y (by rw [ho]; simp [Op.operands])
  rw [hx] at h1
  rw [hy] at h2
  generalize hx' : a.eval x = vx at *
  generalize hy' : a.eval y = vy at *
  cases h1; cases h2
  refine ⟨_, .str _, ?_⟩
  have hk : IntKind.i64.max = 9223372036854775807 := by decide
  have h : ¬ (IntKind.i64.max < (s.size : Int) + (t.size : Int)) := by rw [hk]; omega
  simp [execOp, ho, hx', hy', eqGuard, binOp, Op.stringOp, h]
  omega

theorem opn_div {b : BinOp} {xt yt : TypeId} {x y : Operand} {k : IntKind} {m n : Int} {v : AVal} (ho : o.op = .binOp b xt x y yt) (hx : aeval nt T x = .int k m) (hy : aeval nt T y = .int k n) (hn : n ≠ 0)
    (hv : (match b with | .quo => some (AVal.int k (k.wrap (m.tdiv n))) | .rem => some (.int k (m.tmod n)) | _ => none) = some v) : OpN P nt o T v := by
  refine ⟨(fun c e => by rw [ho] at e; cases e), fun g a w he => ?_⟩
  have h1 := he x (by rw [ho]; simp [Op.operands])
  have h2 := he y (by rw [ho]; simp [Op.operands])
  rw [hx] at h1
  rw [hy] at h2
  generalize hx' : a.eval x = vx at *
  generalize hy' : a.eval y = vy at *
  cases h1; cases h2
  cases b <;> simp only at hv <;> first | (cases hv; done) | skip
  all_goals
    injection hv with hv
    subst hv
    exact ⟨_, .int _ _, by simp [execOp, ho, hx', hy', eqGuard, binOp, Op.intDiv, hn]⟩

theorem opn_shift {b : BinOp} {xt yt : TypeId} {x y : Operand} {k k2 : IntKind} {m n : Int} {v : AVal} (ho : o.op = .binOp b xt x y yt) (hx : aeval nt T x = .int k m) (hy : aeval nt T y = .int k2 n) (hn : 0 ≤ n)
    (hv : (match b with | .shl => some (AVal.int k (k.wrap (m * 2 ^ (min n.toNat k.bits)))) | .shr => some (.int k (m.fdiv (2 ^ (min n.toNat k.bits)))) | _ => none) = some v) : OpN P nt o T v := by
  refine ⟨(fun c e => by rw [ho] at e; cases e), fun g a w he => ?_⟩
  have h1 := he x (by rw [ho]; simp [Op.operands])
  have h2 := he y (by rw [ho]; simp [Op.operands])
  rw [hx] at h1
  rw [hy] at h2
  generalize hx' : a.eval x = vx at *
  generalize hy' : a.eval y = vy at *
  cases h1; cases h2
  have hn' : ¬ n < 0 := by omega
  cases b <;> simp only at hv <;> first | (cases hv; done) | skip
  all_goals
    injection hv with hv
    subst hv
    exact ⟨_, .int _ _, by simp [execOp, ho, hx', hy', eqGuard, binOp, Op.shift, hn']⟩

def unA : UnOp → AVal → Option AVal
  | .neg, .int k n => some (.int k (k.wrap (0 - n)))
  | .not, .bool b => some (.bool !b)
  | .xor, .int k n => some (.int k (k.wrap (BitVec.ofInt k.bits (if k.signed then -1 else k.max) ^^^ BitVec.ofInt k.bits n).toNat))
  | _, _ => none

theorem opn_un {u : UnOp} {xt : TypeId} {x : Operand} {v : AVal} (ho : o.op = .unOp u xt x) (hv : unA u (aeval nt T x) = some v) : OpN P nt o T v := by
  refine ⟨(fun c e => by rw [ho] at e; cases e), fun g a w he => ?_⟩
  have h1 := he x (by rw [ho]; simp [Op.operands])
  generalize hx : aeval nt T x = ax at *
  generalize hx' : a.eval x = vx at *
  unfold unA at hv
  split at hv <;> first | (cases hv; done) | skip
  all_goals
    cases h1
    injection hv with hv
    subst hv
    first
      | exact ⟨_, .int _ _, by simp [execOp, ho, hx', Op.unary, Op.intArith, Op.intBits]⟩
      | exact ⟨_, .bool _, by simp [execOp, ho, hx', Op.unary]⟩

/-- A conversion between kinds of whole numbers (and of strings to strings). -/
def convA (P : Program) (s d : TypeId) : Option IntKind :=
  match P.underlying s, P.underlying d with
  | some (.int _), some (.int k) => some k
  | _, _ => none

theorem opn_conv {s d : TypeId} {x : Operand} {k0 k : IntKind} {n : Int} (ho : o.op = .convert s d x) (hc : convA P s d = some k) (hx : aeval nt T x = .int k0 n) : OpN P nt o T (.int k (k.wrap n)) := by
  refine ⟨(fun c e => by rw [ho] at e; cases e), fun g a w he => ?_⟩
  have h1 := he x (by rw [ho]; simp [Op.operands])
  rw [hx] at h1
  generalize hx' : a.eval x = vx at *
  cases h1
  unfold convA at hc
  split at hc <;> first | (cases hc; done) | skip
  rename_i k1 k2 e1 e2
  injection hc with hc
  subst hc
  exact ⟨_, .int _ _, by simp [execOp, ho, hx', convert, run_underlying e1, run_underlying e2, Conv.intToInt]⟩

def _root_.Go.Proofs.YtennhanlcbibaaaGreatDoor.Lb.AVal.there : AVal → Bool
  | .ptr _ _ _ | .iptr _ _ | .rptr _ _ _ _ _ | .fn (.func _) _ _ | .yld _ => true
  | _ => false

theorem opn_nilCheck {x : Operand} {v : AVal} (ho : o.op = .nilCheck x) (hx : aeval nt T x = v) (hv : v.there = true) : OpN P nt o T v := by
  refine ⟨(fun c e => by rw [ho] at e; cases e), fun g a w he => ?_⟩
  have h1 := he x (by rw [ho]; simp [Op.operands])
  rw [hx] at h1
  refine ⟨a.eval x, h1, ?_⟩
  generalize hx' : a.eval x = vx at *
  cases h1 <;> simp [AVal.there] at hv <;> try (simp [execOp, ho, hx']; done)
  rename_i f first cap first' cap' _ _ _ _
  cases f <;> simp at hv
  simp [execOp, ho, hx']

theorem opn_extract {x : Operand} {i : Nat} {vs : List AVal} {v : AVal} (ho : o.op = .extract x i) (hx : aeval nt T x = .tuple vs) (hv : vs[i]? = some v) : OpN P nt o T v := by
  refine ⟨(fun c e => by rw [ho] at e; cases e), fun g a w he => ?_⟩
  have h1 := he x (by rw [ho]; simp [Op.operands])
  rw [hx] at h1
  generalize hx' : a.eval x = vx at *
  cases h1 with
  | tuple _ cs' h2 h3 =>
    have hlt : i < cs'.size := by rw [h2]; exact lt_of_getElem?_some hv
    refine ⟨cs'[i], by have := h3 i v hv; simpa [Array.getD, hlt] using this, ?_⟩
    simp [execOp, ho, hx', Instr.extract, Array.getElem?_eq_getElem hlt]

/-- Where a field lies behind a pointer. -/
def ptrA (x : AVal) (d : Nat) : Option AVal :=
  match x with
  | .ptr n k off => some (.ptr n k (off + d))
  | .iptr y off => some (.iptr y (off + d))
  | .rptr n k sz j off => some (.rptr n k sz j (off + d))
  | _ => none

theorem addr_add (b off d : Nat) : (⟨b, off, none⟩ : Addr).add d = ⟨b, off + d, none⟩ := by
  unfold Addr.add; split <;> simp_all

theorem ptrA_rel {g : G} {x v : AVal} {d : Nat} {u : Value} (hv : ptrA x d = some v) (h : VRel g x u) : ∃ b o, u = .pointer (some ⟨b, o, none⟩) ∧ VRel g v (.pointer (some ⟨b, o + d, none⟩)) := by
  cases h <;> simp only [ptrA] at hv <;> first | (cases hv; done) | (injection hv with hv; subst hv)
  · rename_i n k off b N h; exact ⟨b, off, rfl, .ptr n k _ b N h⟩
  · rename_i y off b o vals h1 h2
    refine ⟨b, o + off, rfl, ?_⟩
    rw [Nat.add_assoc]
    exact .iptr y (off + d) b o vals h1 h2
  · rename_i n k sz j off b N h
    refine ⟨b, j * sz + off, rfl, ?_⟩
    rw [Nat.add_assoc]
    exact .rptr n k sz j (off + d) b N h

/-- Some of the cells of a struct, as a value. -/
def getL (cs : List AVal) (off s : Nat) : Bool → AVal
  | true => .agg ((cs.drop off).take s)
  | false => cs.getD off .any

theorem opn_fieldAddr {t : TypeId} {x : Operand} {f off s : Nat} {ag : Bool} {v : AVal} (ho : o.op = .fieldAddr t x f) (hf : fldA P t f = some (off, s, ag)) (hs : s ≠ 0) (hv : ptrA (aeval nt T x) off = some v) : OpN P nt o T v := by
  refine ⟨(fun c e => by rw [ho] at e; cases e), fun g a w he => ?_⟩
  have h1 := he x (by rw [ho]; simp [Op.operands])
  obtain ⟨fs, fd, h2, h3, rfl, h4⟩ := fldA_spec hf
  obtain ⟨b, oo, hu, hr⟩ := ptrA_rel hv h1
  refine ⟨_, hr, ?_⟩
  simp [execOp, ho, hu, Instr.fieldAt, run_underlying h2, h3, Instr.sureAddr, fieldPlace, (run_tyA h4 w).2, hs, addr_add]

theorem opn_field {t : TypeId} {x : Operand} {f off s : Nat} {ag : Bool} {cs : List AVal} (ho : o.op = .field t x f) (hf : fldA P t f = some (off, s, ag)) (hx : aeval nt T x = .agg cs) (hl : off + s ≤ cs.length) (h1s : ag = true ∨ s = 1) :
    OpN P nt o T (getL cs off s ag) := by
  refine ⟨(fun c e => by rw [ho] at e; cases e), fun g a w he => ?_⟩
  have h1 := he x (by rw [ho]; simp [Op.operands])
  obtain ⟨fs, fd, h2, h3, rfl, h4⟩ := fldA_spec hf
  rw [hx] at h1
  generalize hx' : a.eval x = vx at *
  cases h1 with
  | agg _ cs' h5 h6 h7 =>
    cases ag with
    | true =>
      refine ⟨.agg (cs'.extract fd.offset (fd.offset + s)), ?_, ?_⟩
      · refine .agg _ _ (by simp [h5]; omega) (fun i c e => ?_) (fun i c e => ?_)
        · rw [List.getElem?_take] at e
          split at e
          · rw [List.getElem?_drop] at e; exact h6 _ c e
          · cases e
        · rw [List.getElem?_take] at e
          split at e
          · rw [List.getElem?_drop] at e
            have := h7 _ c e
            have hlt : fd.offset + i < cs'.size := by rw [h5]; exact lt_of_getElem?_some e
            have hlt2 : i < min (fd.offset + s) cs'.size - fd.offset := by omega
            simpa [Array.getD, hlt, hlt2] using this
          · cases e
      · simp [execOp, ho, hx', Instr.field, run_underlying h2, h3, asAgg, part, (run_tyA h4 w).1, (run_tyA h4 w).2]
    | false =>
      have hs : s = 1 := by rcases h1s with h | h; cases h; exact h
      have hlt : fd.offset < cs'.size := by rw [h5]; omega
      have hlt' : fd.offset < cs.length := by omega
      refine ⟨cs'[fd.offset], ?_, ?_⟩
      · have := h7 fd.offset cs[fd.offset] (List.getElem?_eq_getElem hlt')
        simpa [getL, Array.getD, hlt, List.getD_eq_getElem?_getD, List.getElem?_eq_getElem hlt'] using this
      · simp [execOp, ho, hx', Instr.field, run_underlying h2, h3, asAgg, part, (run_tyA h4 w).1, (run_tyA h4 w).2, Array.getElem?_eq_getElem hlt]
end
end Go.Proofs.YtennhanlcbibaaaGreatDoor.Lb

/- Operations: loads, stores, new boxes. -/
namespace Go.Proofs.YtennhanlcbibaaaGreatDoor.Lb
open Go

def getA (x : AVal) (off s : Nat) (ag : Bool) : AVal := getL x.cells off s ag

theorem load_core {P : Program} {g : G} {w : World} {x : AVal} {b o off s : Nat} {t : TypeId} {ag : Bool} (hc : ∀ (i : Nat) (c : AVal), x.cells[i]? = some c → c.scalar = true ∧ ∃ v, w.cell? ⟨b, o + i, none⟩ = some v ∧ VRel g c v)
    (hty : tyA P t = some (s, ag)) (hr : off + s ≤ x.cells.length) (h1 : ag = true ∨ s = 1) : ∃ v', (loadVar t ⟨b, o + off, none⟩).run P w = .ok v' w ∧ VRel g (getA x off s ag) v' := by
  obtain ⟨ha, hs⟩ := run_tyA hty w
  cases ag with
  | true =>
    have hcell : ∀ j, j < s → w.cell? ((⟨b, o + off, none⟩ : Addr).add j) = some ((w.cell? ⟨b, o + (off + j), none⟩).getD undef) := by
      intro j hj
      obtain ⟨c, hcc⟩ := getElem?_some_of_lt (l := x.cells) (i := off + j) (by omega)
      obtain ⟨_, v, hv, _⟩ := hc (off + j) c hcc
      rw [addr_add, Nat.add_assoc, hv]; rfl
    refine ⟨.agg ((List.range s).map fun j => (w.cell? ⟨b, o + (off + j), none⟩).getD undef).toArray, ?_, ?_⟩
    · simp [loadVar, ha, hs, run_loadCells w _ s _ hcell]
    · refine .agg _ _ (by simp; omega) (fun i c e => ?_) (fun i c e => ?_)
      · rw [List.getElem?_take] at e
        split at e
        · rw [List.getElem?_drop] at e; exact (hc _ c e).1
        · cases e
      · rw [List.getElem?_take] at e
        split at e
        · rename_i hi
          rw [List.getElem?_drop] at e
          obtain ⟨_, v, hv, hr'⟩ := hc _ c e
          simp [Array.getD, hi, hv]
          exact hr'
        · cases e
  | false =>
    have hs1 : s = 1 := by rcases h1 with h | h; cases h; exact h
    have hlt : off < x.cells.length := by omega
    obtain ⟨_, v, hv, hr'⟩ := hc off x.cells[off] (List.getElem?_eq_getElem hlt)
    refine ⟨v, ?_, ?_⟩
    · simp [loadVar, ha, hv]
    · simpa [getA, getL, List.getD_eq_getElem?_getD, List.getElem?_eq_getElem hlt] using hr'

theorem get_more {H L : AHeap} {n : Nat} {o : AObj} (h : H[n]? = some o) : (H ++ L)[n]? = some o := by
  rw [List.getElem?_append_left (lt_of_getElem?_some h)]; exact h

theorem gen_of {H : AHeap} {n : Nat} {o : AObj} {k : Nat} (h : H[n]? = some o) (hk : o.gen = some k) : H.gen n = some k := by
  simp [AHeap.gen, h, hk]

/-- The cells of a live box. -/
theorem box_cells {g : G} {w : World} {H : AHeap} {n b N : Nat} {x : AVal} (hi : Inv g w H) (hio : g.io n 0 = some (some b, N)) (hH : H[n]? = some (.cells x)) :
    ∃ arr t, w.heap[b]? = some (.cells arr t (0, 0)) ∧ arr.size = x.cells.length ∧ ∀ (i : Nat) (c : AVal), x.cells[i]? = some c → c.scalar = true ∧ VRel g c (arr.getD i undef) := hi.obj n 0 _ _ hio hH rfl

theorem row_cells {g : G} {w : World} {H : AHeap} {n k b N sz : Nat} {xs : List AVal} (hi : Inv g w H) (hio : g.io n k = some (some b, N)) (hH : H[n]? = some (.row sz k xs)) :
    ∃ arr t, w.heap[b]? = some (.cells arr t (0, 0)) ∧ arr.size = N * sz ∧ xs.length ≤ N ∧ (∀ (j : Nat) (x : AVal), xs[j]? = some x → x.cells.length = sz ∧ ∀ (i : Nat) (c : AVal), x.cells[i]? = some c → c.scalar = true ∧ VRel g c (arr.getD (j * sz + i) undef)) := hi.obj n k _ _ hio hH rfl

theorem mul_add_lt {j i sz N : Nat} (hj : j < N) (hi : i < sz) : j * sz + i < N * sz :=
  calc j * sz + i < j * sz + sz := by omega
    _ = (j + 1) * sz := by rw [Nat.add_mul, Nat.one_mul]
    _ ≤ N * sz := Nat.mul_le_mul_right _ (by omega)

section
variable {P : Program} {nt : Nat} {o : Oper} {T : Nat → AVal} {H : AHeap}

theorem op_load {t : TypeId} {ad : Operand} {v : AVal} {g : G} {a : Act} {w : World} {b off : Nat} {v' : Value} (ho : o.op = .load t ad) (he : a.eval ad = .pointer (some ⟨b, off, none⟩)) (hr : (loadVar t ⟨b, off, none⟩).run P w = .ok v' w) :
    (execOp a.eval o).run P w = .ok (.value v') w := by
  simp [execOp, ho, he, Instr.loadAt, Instr.sureAddr, hr]

/-- A load out of a box. -/
theorem op_load_ptr {t : TypeId} {ad : Operand} {n off s : Nat} {ag : Bool} {x v : AVal} (ho : o.op = .load t ad) (hx : aeval nt T ad = .ptr n 0 off) (hH : H[n]? = some (.cells x)) (hty : tyA P t = some (s, ag)) (hr : off + s ≤ x.cells.length) (h1 : ag = true ∨ s = 1)
    (hv : getA x off s ag = v) : ∀ L, OpS P nt o T (H ++ L) v (H ++ L) := fun L =>
  op_of_value (fun c e => by rw [ho] at e; cases e) fun g a w hi he => by
    have h := he ad (by rw [ho]; simp [Op.operands])
    rw [hx] at h
    generalize hu : a.eval ad = u at h
    cases h with
    | ptr _ _ _ b N hio =>
      obtain ⟨arr, t', h2, h3, h4⟩ := box_cells hi hio (get_more hH)
      obtain ⟨v', hr', hv'⟩ := load_core (P := P) (g := g) (w := w) (b := b) (o := 0) (x := x) (off := off) (fun i c e => by
        have hlt : i < arr.size := by rw [h3]; exact lt_of_getElem?_some e
        obtain ⟨h5, h6⟩ := h4 i c e
        refine ⟨h5, arr[i], ?_, by simpa [Array.getD, hlt] using h6⟩
        rw [cell_of_heap h2, Nat.zero_add, Array.getElem?_eq_getElem hlt]) hty hr h1
      rw [Nat.zero_add] at hr'
      exact ⟨g, v', w, hi, .refl _ _ _, by rw [← hv]; exact hv', .inl (op_load (v := v) (g := g) ho hu hr')⟩

/-- A load out of an element of a row. -/
theorem op_load_rptr {t : TypeId} {ad : Operand} {n k sz j off s : Nat} {ag : Bool} {xs : List AVal} {x v : AVal} (ho : o.op = .load t ad) (hx : aeval nt T ad = .rptr n k sz j off) (hH : H[n]? = some (.row sz k xs)) (hj : xs[j]? = some x) (hty : tyA P t = some (s, ag)) (hr : off + s ≤ x.cells.length) (h1 : ag = true ∨ s = 1)
    (hv : getA x off s ag = v) : ∀ L, OpS P nt o T (H ++ L) v (H ++ L) := fun L =>
  op_of_value (fun c e => by rw [ho] at e; cases e) fun g a w hi he => by
    have h := he ad (by rw [ho]; simp [Op.operands])
    rw [hx] at h
    generalize hu : a.eval ad = u at h
    cases h with
    | rptr _ _ _ _ _ b N hio =>
      obtain ⟨arr, t', h2, h3, h4, h5⟩ := row_cells hi hio (get_more hH)
      obtain ⟨v', hr', hv'⟩ := load_core (P := P) (g := g) (w := w) (b := b) (o := j * sz) (x := x) (off := off) (fun i c e => by
        obtain ⟨h6, h7⟩ := h5 j x hj
        have hlt : j * sz + i < arr.size := by
          rw [h3]
          exact mul_add_lt (Nat.lt_of_lt_of_le (lt_of_getElem?_some hj) h4) (by rw [← h6]; exact lt_of_getElem?_some e)
        obtain ⟨h8, h9⟩ := h7 i c e
        refine ⟨h8, arr[j * sz + i], ?_, by simpa [Array.getD, hlt] using h9⟩
        rw [cell_of_heap h2, Array.getElem?_eq_getElem hlt]) hty hr h1
      exact ⟨g, v', w, hi, .refl _ _ _, by rw [← hv]; exact hv', .inl (op_load (v := v) (g := g) ho hu hr')⟩

/-- A load out of memory that nobody writes. -/
theorem op_load_iptr {t : TypeId} {ad : Operand} {off s : Nat} {ag : Bool} {x v : AVal} (ho : o.op = .load t ad) (hx : aeval nt T ad = .iptr x off) (hty : tyA P t = some (s, ag)) (hr : off + s ≤ x.cells.length) (h1 : ag = true ∨ s = 1)
    (hv : getA x off s ag = v) : ∀ L, OpS P nt o T (H ++ L) v (H ++ L) := fun L =>
  op_of_value (fun c e => by rw [ho] at e; cases e) fun g a w hi he => by
    have h := he ad (by rw [ho]; simp [Op.operands])
    rw [hx] at h
    generalize hu : a.eval ad = u at h
    cases h with
    | iptr _ _ b oo vals h2 h3 =>
      obtain ⟨v', hr', hv'⟩ := load_core (P := P) (g := g) (w := w) (b := b) (o := oo) (x := x) (off := off) (fun i c e => ⟨(h2 i c e).1, vals i, hi.imm _ _ _ (h2 i c e).2, h3 i c e⟩) hty hr h1
      exact ⟨g, v', w, hi, .refl _ _ _, by rw [← hv]; exact hv', .inl (op_load (v := v) (g := g) ho hu hr')⟩

/-! ### Stores -/
def spliceL {α : Type} (cs : List α) (off : Nat) (vs : List α) : List α := cs.take off ++ vs ++ cs.drop (off + vs.length)

/-- A value with some of its cells written. -/
def setA (x : AVal) (off : Nat) (v : AVal) : AVal := if v.cells.length = x.cells.length then v else .agg (spliceL x.cells off v.cells)

theorem cells_setA {x v : AVal} {off : Nat} (h : off + v.cells.length ≤ x.cells.length) : (setA x off v).cells = spliceL x.cells off v.cells := by
  unfold setA
  split
  · rename_i e
    obtain rfl : off = 0 := by omega
    simp [spliceL, e]
  · rfl

theorem splice_get {α : Type} {cs vs : List α} {off : Nat} (h : off + vs.length ≤ cs.length) (i : Nat) : (spliceL cs off vs)[i]? = if i < off then cs[i]? else if i < off + vs.length then vs[i - off]? else cs[i]? := by
  unfold spliceL
  by_cases h1 : i < off
  · rw [if_pos h1, List.append_assoc, List.getElem?_append_left (by simp; omega), List.getElem?_take, if_pos h1]
  · rw [if_neg h1, List.append_assoc, List.getElem?_append_right (by simp; omega)]
    have hm : min off cs.length = off := by omega
    simp only [List.length_take, hm]
    by_cases h2 : i < off + vs.length
    · rw [if_pos h2, List.getElem?_append_left (by omega)]
    · rw [if_neg h2, List.getElem?_append_right (by omega), List.getElem?_drop]
      congr 1; omega

theorem splice_length {α : Type} {cs vs : List α} {off : Nat} (h : off + vs.length ≤ cs.length) : (spliceL cs off vs).length = cs.length := by
  unfold spliceL; simp; omega

def _root_.Go.Proofs.YtennhanlcbibaaaGreatDoor.Lb.AVal.boxable : AVal → Bool
  | .tuple _ | .any => false
  | _ => true

/-- What is stored is cells of one value each. -/
theorem VRel.boxed {g : G} {a : AVal} {v : Value} (h : VRel g a v) (hb : a.boxable = true) : v.cells.size = a.cells.length ∧ (∀ u ∈ v.cells.toList, u.oneCell' = true) ∧ ∀ (i : Nat) (c : AVal), a.cells[i]? = some c → c.scalar = true ∧ VRel g c (v.cells.getD i undef) := by
  by_cases hs : a.scalar = true
  · obtain ⟨h1, h2⟩ := h.one hs
    have hc : a.cells = [a] := by cases a <;> first | rfl | (simp [AVal.scalar] at hs)
    rw [h2, hc]
    refine ⟨rfl, by simpa using h1, fun i c e => ?_⟩
    cases i with
    | zero => simp at e; subst e; exact ⟨hs, by simpa using h⟩
    | succ i => simp at e
  · cases h <;> simp [AVal.scalar, AVal.boxable] at hs hb
    rename_i cs cs' h1 h2 h3
    refine ⟨h1, fun u hu => ?_, fun i c e => ⟨h2 i c e, h3 i c e⟩⟩
    obtain ⟨i, hi, rfl⟩ := List.getElem_of_mem hu
    have hi' : i < cs'.size := by simpa [Value.cells] using hi
    have hlt : i < cs.length := by omega
    have := (h3 i cs[i] (List.getElem?_eq_getElem hlt)).one (h2 i _ (List.getElem?_eq_getElem hlt))
    simpa [Value.cells, Array.getD, hi'] using this.1

theorem store_core {w : World} {b : Nat} {arr : Array Value} {t0 : TypeId} (hb : w.heap[b]? = some (.cells arr t0 (0, 0))) {t : TypeId} {s : Nat} {ag : Bool} (hty : tyA P t = some (s, ag)) {off : Nat} {v : Value} (hs : v.cells.size = s) (h1 : ∀ u ∈ v.cells.toList, u.oneCell' = true) (hr : off + s ≤ arr.size) :
    (storeVar t ⟨b, off, none⟩ v).run P w = .ok () (w.setRow b (spliceL arr.toList off v.cells.toList).toArray) := by
  subst hs
  have h2 := run_storeCells_at P b off t0 v.cells.toList 0 arr w hb (by simpa using hr) h1
  simp only [Nat.add_zero] at h2
  simp [storeVar, (run_tyA hty w).2, spliceL]
  simpa [spliceL] using h2

theorem getD_toList {l : List Value} {i : Nat} : l.toArray.getD i undef = (l[i]?).getD undef := by
  simp [Array.getD, List.getElem?_eq_getElem]
  by_cases h : i < l.length
  · simp [h]
  · simp [h]

theorem arr_getD {arr : Array Value} {i : Nat} : arr.getD i undef = (arr.toList[i]?).getD undef := by
  by_cases h : i < arr.size
  · simp [Array.getD, h]
  · simp [Array.getD, h]

/-- Cells that are written, one beside the other. -/
theorem splice_rel {g : G} {cs vs : List AVal} {l us : List Value} {off : Nat} (hl : l.length = cs.length) (hc : ∀ (i : Nat) (c : AVal), cs[i]? = some c → c.scalar = true ∧ VRel g c ((l[i]?).getD undef)) (hu : us.length = vs.length)
    (hv : ∀ (i : Nat) (c : AVal), vs[i]? = some c → c.scalar = true ∧ VRel g c ((us[i]?).getD undef)) (hr : off + vs.length ≤ cs.length) :
    ∀ (i : Nat) (c : AVal), (spliceL cs off vs)[i]? = some c → c.scalar = true ∧ VRel g c (((spliceL l off us)[i]?).getD undef) := by
  intro i c e
  rw [splice_get hr] at e
  rw [splice_get (by omega)]
  rw [hu]
  split at e
  · rename_i h; rw [if_pos h]; exact hc i c e
  · rename_i h
    rw [if_neg h]
    split at e
    · rename_i h2; rw [if_pos h2]; exact hv _ c e
    · rename_i h2; rw [if_neg h2]; exact hc i c e

theorem op_store {t : TypeId} {ad x : Operand} {a : Act} {w w' : World} {b off : Nat} (ho : o.op = .store t ad x) (he : a.eval ad = .pointer (some ⟨b, off, none⟩)) (hr : (storeVar t ⟨b, off, none⟩ (a.eval x)).run P w = .ok () w') :
    (execOp a.eval o).run P w = .ok .skip w' := by
  simp [execOp, ho, he, Instr.storeAt, Instr.sureAddr, hr]

/-- A store into a box. -/
theorem op_store_ptr {t : TypeId} {ad y : Operand} {n off s : Nat} {ag : Bool} {x v : AVal} (ho : o.op = .store t ad y) (hx : aeval nt T ad = .ptr n 0 off) (hy : aeval nt T y = v) (hH : H[n]? = some (.cells x)) (hty : tyA P t = some (s, ag))
    (hb : v.boxable = true) (hs : v.cells.length = s) (hr : off + s ≤ x.cells.length) : OpS P nt o T H .any (H.set n (.cells (setA x off v))) :=
  op_of_value (fun c e => by rw [ho] at e; cases e) fun g a w hi he => by
    have h := he ad (by rw [ho]; simp [Op.operands])
    have hyv := he y (by rw [ho]; simp [Op.operands])
    rw [hx] at h
    rw [hy] at hyv
    generalize hu : a.eval ad = u at h
    obtain ⟨k1, k2, k3⟩ := hyv.boxed hb
    cases h with
    | ptr _ _ _ b N hio =>
      obtain ⟨arr, t', h2, h3, h4⟩ := box_cells hi hio hH
      have hrun := store_core (P := P) h2 hty (off := off) (v := a.eval y) (by omega) k2 (by omega)
      have hne : ∀ c, c ≠ b → (w.setRow b (spliceL arr.toList off (a.eval y).cells.toList).toArray).heap[c]? = w.heap[c]? := fun c hc => setRow_other w b c _ hc
      refine ⟨g, undef, _, inv_update hi hio (gen_of hH rfl) (.inl rfl) hne (by simp) (fun _ => ?_), ext_update hio hne (by simp) rfl rfl rfl (by simp), .any _, .inr ⟨op_store ho hu hrun, rfl⟩⟩
      have hcl := cells_setA (x := x) (v := v) (off := off) (by omega)
      refine ⟨_, t', setRow_heap w b arr _ t' _ h2, ?_, fun i c e => ?_⟩
      · rw [hcl, splice_length (by omega), List.size_toArray, splice_length (by simp [h3, k1]; omega)]; simpa using h3
      · rw [hcl] at e
        rw [getD_toList]
        exact splice_rel (by simpa using h3) (fun i c e => by rw [← arr_getD]; exact h4 i c e) (by simpa using k1) (fun i c e => by rw [← arr_getD]; exact k3 i c e) (by omega) i c e

/-- A store into an element of a row. -/
theorem op_store_rptr {t : TypeId} {ad y : Operand} {n k sz j off s : Nat} {ag : Bool} {xs : List AVal} {x v : AVal} (ho : o.op = .store t ad y) (hx : aeval nt T ad = .rptr n k sz j off) (hy : aeval nt T y = v) (hH : H[n]? = some (.row sz k xs)) (hj : xs[j]? = some x) (hty : tyA P t = some (s, ag))
    (hb : v.boxable = true) (hs : v.cells.length = s) (hr : off + s ≤ x.cells.length) : OpS P nt o T H .any (H.set n (.row sz k (xs.set j (setA x off v)))) :=
  op_of_value (fun c e => by rw [ho] at e; cases e) fun g a w hi he => by
    have h := he ad (by rw [ho]; simp [Op.operands])
    have hyv := he y (by rw [ho]; simp [Op.operands])
    rw [hx] at h
    rw [hy] at hyv
    generalize hu : a.eval ad = u at h
    obtain ⟨k1, k2, k3⟩ := hyv.boxed hb
    cases h with
    | rptr _ _ _ _ _ b N hio =>
      obtain ⟨arr, t', h2, h3, h4, h5⟩ := row_cells hi hio hH
      obtain ⟨h6, h7⟩ := h5 j x hj
      have hjl := lt_of_getElem?_some hj
      have hfit : j * sz + off + s ≤ arr.size := by
        rw [h3]
        calc j * sz + off + s ≤ j * sz + sz := by omega
          _ = (j + 1) * sz := by rw [Nat.add_mul, Nat.one_mul]
          _ ≤ N * sz := Nat.mul_le_mul_right _ (by omega)
      have hrun := store_core (P := P) h2 hty (off := j * sz + off) (v := a.eval y) (by omega) k2 (by omega)
      have hne : ∀ c, c ≠ b → (w.setRow b (spliceL arr.toList (j * sz + off) (a.eval y).cells.toList).toArray).heap[c]? = w.heap[c]? := fun c hc => setRow_other w b c _ hc
      have hcl := cells_setA (x := x) (v := v) (off := off) (by omega)
      refine ⟨g, undef, _, inv_update hi hio (gen_of hH rfl) (.inl rfl) hne (by simp) (fun _ => ?_), ext_update hio hne (by simp) rfl rfl rfl (by simp), .any _, .inr ⟨op_store ho hu hrun, rfl⟩⟩
      have hul : (a.eval y).cells.toList.length = s := by simp; omega
      refine ⟨_, t', setRow_heap w b arr _ t' _ h2, ?_, by simpa using h4, fun j' x' e => ?_⟩
      · rw [List.size_toArray, splice_length (by rw [hul]; simpa using hfit)]; simpa using h3
      · by_cases hjj : j = j'
        · subst hjj
          rw [List.getElem?_set_self hjl] at e
          injection e with e
          subst e
          refine ⟨by rw [hcl, splice_length (by omega), h6], fun i c e => ?_⟩
          rw [hcl] at e
          rw [getD_toList, splice_get (by rw [hul]; simpa using hfit), hul]
          rw [splice_get (by omega), hs] at e
          have hi : i < sz := by
            split at e
            · omega
            · split at e
              · omega
              · rw [← h6]; exact lt_of_getElem?_some e
          split at e
          · rename_i h8
            rw [if_pos (by omega), ← arr_getD]; exact h7 i c e
          · rename_i h8
            rw [if_neg (by omega)]
            split at e
            · rename_i h9
              rw [if_pos (by omega), show j * sz + i - (j * sz + off) = i - off from by omega, ← arr_getD]
              exact k3 _ c e
            · rename_i h9
              rw [if_neg (by omega), ← arr_getD]; exact h7 i c e
        · rw [List.getElem?_set_ne hjj] at e
          obtain ⟨h8, h9⟩ := h5 j' x' e
          refine ⟨h8, fun i c e' => ?_⟩
          have hi : i < sz := by rw [← h8]; exact lt_of_getElem?_some e'
          rw [getD_toList, splice_get (by rw [hul]; simpa using hfit), hul]
          have hdisj : j' * sz + i < j * sz + off ∨ j * sz + off + s ≤ j' * sz + i := by
            rcases Nat.lt_or_gt_of_ne hjj with h10 | h10
            · right
              have : (j + 1) * sz ≤ j' * sz := Nat.mul_le_mul_right _ h10
              rw [Nat.add_mul, Nat.one_mul] at this; omega
            · left
              have : (j' + 1) * sz ≤ j * sz := Nat.mul_le_mul_right _ h10
              rw [Nat.add_mul, Nat.one_mul] at this; omega
          rcases hdisj with h10 | h10
          · rw [if_pos h10, ← arr_getD]; exact h9 i c e'
          · rw [if_neg (by omega), if_neg (by omega), ← arr_getD]; exact h9 i c e'

/-! ### New boxes -/
/-- A constant, as a type's zero value is one. -/
def constA : Value → AVal
  | .bool b => .bool b
  | .int k n => .int k n
  | .float k n => .flt k n
  | .string s => .str s
  | .pointer none => .nilPtr
  | .slice none 0 0 => .imm 0 [] true
  | .map none => .nilMap
  | .nilFunc => .nilFn
  | .nilIface => .nilIface
  | _ => .any

theorem constA_rel (g : G) (v : Value) : VRel g (constA v) v := by
  unfold constA
  split <;> first | exact .bool _ | exact .int _ _ | exact .flt _ _ | exact .str _ | exact .nilPtr | exact .immNil _ _ | exact .nilMap | exact .nilFn | exact .nilIface | exact .any _

def ofV : Value → AVal
  | .agg cs => .agg (cs.toList.map constA)
  | v => constA v

def zeroA (P : Program) (t : TypeId) : Option AVal :=
  match (P.info? t).bind (·.zero) with
  | some z => if (ofV z).cells.all (·.scalar) && ((ofV z).boxable) then some (ofV z) else none
  | none => none

theorem ofV_rel {g : G} {z : Value} (h : (ofV z).cells.all (·.scalar) = true) : VRel g (ofV z) z := by
  unfold ofV at *
  split
  · rename_i cs
    simp only [AVal.cells, List.all_map, List.all_eq_true] at h
    refine .agg _ _ (by simp) (fun i c e => ?_) (fun i c e => ?_)
    · rw [List.getElem?_map] at e
      obtain ⟨x, hx, rfl⟩ := Option.map_eq_some_iff.1 e
      exact h x (List.mem_of_getElem? hx)
    · rw [List.getElem?_map] at e
      obtain ⟨x, hx, rfl⟩ := Option.map_eq_some_iff.1 e
      have hi : i < cs.size := by simpa using lt_of_getElem?_some hx
      have : cs.getD i undef = x := by
        rw [arr_getD, hx]; rfl
      rw [this]; exact constA_rel g x
  · exact constA_rel g _

theorem zeroA_spec {t : TypeId} {za : AVal} (h : zeroA P t = some za) : ∃ i z, P.info? t = some i ∧ i.zero = some z ∧ za.boxable = true ∧ ∀ g, VRel g za z := by
  unfold zeroA at h
  split at h
  · rename_i z hz
    obtain ⟨i, hi, hz'⟩ := Option.bind_eq_some_iff.1 hz
    split at h
    · rename_i hc
      injection h with h
      subst h
      simp only [Bool.and_eq_true] at hc
      exact ⟨i, z, hi, hz', hc.2, fun g => ofV_rel hc.1⟩
    · cases h
  · cases h

theorem new_box {g : G} {w : World} {n : Nat} {v : AVal} {u : Value} {e : TypeId} (hv : VRel g v u) (hb : v.boxable = true) (hno : ∀ k, g.io n k = none) :
    ORel (g.add n 0 (some w.heap.size, v.cells.length)) (w.alloc (.cells u.cells e)) (.cells v) (some w.heap.size, v.cells.length) ∧ VRel (g.add n 0 (some w.heap.size, v.cells.length)) (.ptr n 0 0) (.pointer (some ⟨w.heap.size, 0, none⟩)) := by
  have hle : g.le (g.add n 0 (some w.heap.size, v.cells.length)) := G.le_add (hno 0)
  obtain ⟨k1, k2, k3⟩ := hv.boxed hb
  exact ⟨⟨u.cells, e, alloc_self _ _, k1, fun i c h => ⟨(k3 i c h).1, (k3 i c h).2.mono hle⟩⟩, .ptr n 0 0 _ _ G.add_self⟩

theorem opa_alloc {e : TypeId} {za : AVal} {n : Nat} (ho : o.op = .alloc e) (hz : zeroA P e = some za) : OpA P nt o T n (.ptr n 0 0) (.cells za) := by
  refine ⟨(fun c h => by rw [ho] at h; cases h), rfl, fun g a w he hno => ?_⟩
  obtain ⟨i, z, hi, hz', hb, hr⟩ := zeroA_spec hz
  obtain ⟨h1, h2⟩ := new_box (w := w) (n := n) (e := e) (hr g) hb hno
  refine ⟨_, _, za.cells.length, ?_, h1, h2⟩
  simp [execOp, ho, Instr.alloc, zeroValue, typeInfo, hi, hz', newVar, newRow]

theorem opa_box {e : TypeId} {x : Operand} {v : AVal} {n : Nat} (ho : o.op = .box e x) (hx : aeval nt T x = v) (hb : v.boxable = true) : OpA P nt o T n (.ptr n 0 0) (.cells v) := by
  refine ⟨(fun c h => by rw [ho] at h; cases h), rfl, fun g a w he hno => ?_⟩
  have h := he x (by rw [ho]; simp [Op.operands])
  rw [hx] at h
  obtain ⟨h1, h2⟩ := new_box (w := w) (n := n) (e := e) h hb hno
  refine ⟨_, _, v.cells.length, ?_, h1, h2⟩
  simp [execOp, ho, Instr.box, newVar, newRow]
end
end Go.Proofs.YtennhanlcbibaaaGreatDoor.Lb

