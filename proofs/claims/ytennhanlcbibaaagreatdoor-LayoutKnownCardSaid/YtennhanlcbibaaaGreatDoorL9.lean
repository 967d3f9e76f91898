/- What a run of the program in an abstract memory says of the machine: part 9. -/
import Derived.Test.YtennhanlcbibaaaGreatDoorL8
/- The interpreter once more, in small pieces: the kernel runs it with less. -/
namespace Go.Proofs.YtennhanlcbibaaaGreatDoor.Lb
open Go


noncomputable def getO {α : Type} (l : List α) : Nat → Option α := List.rec (motive := fun _ => Nat → Option α) (fun _ => none) (fun a _ ih n => Nat.rec (motive := fun _ => Option α) (some a) (fun m _ => ih m) n) l
theorem getO_eq {α : Type} : ∀ (l : List α) (n : Nat), getO l n = l[n]?
  | [], n => rfl
  | a :: l, 0 => rfl
  | a :: l, n + 1 => getO_eq l n
noncomputable def lenO {α : Type} (l : List α) : Nat := List.rec (motive := fun _ => Nat → Nat) (fun n => n) (fun _ _ ih n => ih (n + 1)) l 0
theorem lenO_aux {α : Type} : ∀ (l : List α) (n : Nat), List.rec (motive := fun _ => Nat → Nat) (fun n => n) (fun _ _ ih n => ih (n + 1)) l n = n + l.length
  | [], n => rfl
  | a :: l, n => (lenO_aux l (n + 1)).trans (by simp; omega)
theorem lenO_eq {α : Type} (l : List α) : lenO l = l.length := (lenO_aux l 0).trans (by simp)
noncomputable def getT (T : Tr) : Nat → AVal := Tr.rec (motive := fun _ => Nat → AVal) (fun _ => .any) (fun v _ _ iha ihb i => Nat.rec (motive := fun _ => AVal) v (fun i _ => Bool.rec (motive := fun _ => AVal) (ihb (i / 2)) (iha (i / 2)) (Nat.beq (i % 2) 0)) i) T
theorem getT_eq : ∀ (T : Tr) (i : Nat), getT T i = T.get i
  | .l, i => rfl
  | .n v a b, 0 => rfl
  | .n v a b, i + 1 => by
    show Bool.rec (motive := fun _ => AVal) (getT b (i / 2)) (getT a (i / 2)) (Nat.beq (i % 2) 0) = _
    rw [getT_eq a, getT_eq b]; simp only [Tr.get]; cases Nat.beq (i % 2) 0 <;> rfl
noncomputable def evOF (nt : Nat) (T : Tr) (x : Operand) : AVal := Operand.rec (motive := fun _ => AVal)
  (fun t => Bool.rec (motive := fun _ => AVal) .any (getT T t) (Nat.blt t nt)) (fun c => aeval 0 (fun _ => .any) (.const c)) (fun _ => .any) (fun f => .fn (.func f) [] []) x
def binI (b : BinOp) (k k' : IntKind) (a c : Int) : Option AVal := match b with
  | .add => if k = k' then some (.int k (k.wrap (a + c))) else none
  | .sub => if k = k' then some (.int k (k.wrap (a - c))) else none
  | .mul => if k = k' then some (.int k (k.wrap (a * c))) else none
  | .eql => if k = k' then some (.bool (a == c)) else none
  | .neq => if k = k' then some (.bool (a != c)) else none
  | .lss => if k = k' then some (.bool (decide (a < c))) else none
  | .leq => if k = k' then some (.bool (decide (a ≤ c))) else none
  | .gtr => if k = k' then some (.bool (decide (a > c))) else none
  | .geq => if k = k' then some (.bool (decide (a ≥ c))) else none
  | b => binA b (.int k a) (.int k' c)
def binS (b : BinOp) (s t : ByteArray) : Option AVal := match b with
  | .eql => some (.bool (s.toList == t.toList))
  | .neq => some (.bool (!(s.toList == t.toList)))
  | _ => none
def binF1 (b : BinOp) (k : IntKind) (a : Int) (y : AVal) : Option AVal := match y with
  | .int k' c => binI b k k' a c
  | _ => none
def binF2 (b : BinOp) (s : ByteArray) (y : AVal) : Option AVal := match y with
  | .str t => binS b s t
  | _ => none
def binF (b : BinOp) (x y : AVal) : Option AVal := match x with
  | .int k a => binF1 b k a y
  | .str s => binF2 b s y
  | _ => none
theorem binF_eq (b : BinOp) (x y : AVal) : binF b x y = binA b x y := by
  cases x <;> cases b <;> first | rfl | (cases y <;> rfl)
def eqvS_bool (x : Bool) (b : AVal) : Bool := match b with | .bool y => x == y | _ => false
def eqvS_int (k : IntKind) (m : Int) (b : AVal) : Bool := match b with | .int k' n => decide (k = k') && decide (m = n) | _ => false
def eqvS_str (s : ByteArray) (b : AVal) : Bool := match b with | .str t => eqvB s.data.toList t.data.toList | _ => false
def eqvS_nilPtr (b : AVal) : Bool := match b with | .nilPtr => true | _ => false
def eqvS_nilS (b : AVal) : Bool := match b with | .nilS => true | _ => false
def eqvS_empS (b : AVal) : Bool := match b with | .empS => true | _ => false
def eqvS_nilMap (b : AVal) : Bool := match b with | .nilMap => true | _ => false
def eqvS_nilFn (b : AVal) : Bool := match b with | .nilFn => true | _ => false
def eqvS_nilIface (b : AVal) : Bool := match b with | .nilIface => true | _ => false
def eqvS_imm (p : AVal → AVal → Bool) (sz : Nat) (xs : List AVal) (u : Bool) (b : AVal) : Bool := match b with | .imm sz' ys u' => Nat.beq sz sz' && (u == u') && eqvL p xs ys | _ => false
def eqvS_iptr (p : AVal → AVal → Bool) (x : AVal) (o : Nat) (b : AVal) : Bool := match b with | .iptr y o' => Nat.beq o o' && p x y | _ => false
def eqvS_fn2 (p : AVal → AVal → Bool) (g : FuncId) (xs cs : List AVal) (b : AVal) : Bool := match b with | .fn (.func g') ys ds => Nat.beq g g' && eqvL p xs ys && eqvL p cs ds | _ => false
def eqvS_fn (p : AVal → AVal → Bool) (fn : Fn) (xs cs : List AVal) (b : AVal) : Bool := match fn with | .func g => eqvS_fn2 p g xs cs b | _ => false
def eqvS_agg (p : AVal → AVal → Bool) (xs : List AVal) (b : AVal) : Bool := match b with | .agg ys => eqvL p xs ys | _ => false
def eqvS_tuple (p : AVal → AVal → Bool) (xs : List AVal) (b : AVal) : Bool := match b with | .tuple ys => eqvL p xs ys | _ => false
def eqvS_ptr (n k o : Nat) (b : AVal) : Bool := match b with | .ptr n' k' o' => Nat.beq n n' && Nat.beq k k' && Nat.beq o o' | _ => false
def eqvS_row (n k sz o l : Nat) (b : AVal) : Bool := match b with | .row n' k' sz' o' l' => Nat.beq n n' && Nat.beq k k' && Nat.beq sz sz' && Nat.beq o o' && Nat.beq l l' | _ => false
def eqvS_map (n : Nat) (b : AVal) : Bool := match b with | .map n' => Nat.beq n n' | _ => false
def eqvS_iface (p : AVal → AVal → Bool) (t : TypeId) (x : AVal) (b : AVal) : Bool := match b with | .iface t' y => Nat.beq t t' && p x y | _ => false
def isAnyF (b : AVal) : Bool := match b with | .any => true | _ => false
def eqvS (p : AVal → AVal → Bool) (a b : AVal) : Bool := match a with
  | .bool x => eqvS_bool x b
  | .int k m => eqvS_int k m b
  | .str s => eqvS_str s b
  | .nilPtr => eqvS_nilPtr b
  | .nilS => eqvS_nilS b
  | .empS => eqvS_empS b
  | .nilMap => eqvS_nilMap b
  | .nilFn => eqvS_nilFn b
  | .nilIface => eqvS_nilIface b
  | .imm sz xs u => eqvS_imm p sz xs u b
  | .iptr x o => eqvS_iptr p x o b
  | .fn fn xs cs => eqvS_fn p fn xs cs b
  | .agg xs => eqvS_agg p xs b
  | .tuple xs => eqvS_tuple p xs b
  | .ptr n k o => eqvS_ptr n k o b
  | .row n k sz o l => eqvS_row n k sz o l b
  | .map n => eqvS_map n b
  | .iface t x => eqvS_iface p t x b
  | .any => isAnyF b
  | _ => false
def eqvF : Nat → AVal → AVal → Bool
  | 0 => fun _ _ => false
  | f + 1 => eqvS (eqvF f)
theorem eqvF_eq : ∀ f, eqvF f = eqv f := by
  intro f
  induction f with
  | zero => funext a b; simp only [eqvF, eqv]
  | succ f ih =>
    funext a b
    show eqvS (eqvF f) a b = _
    rw [ih]
    cases a with
    | fn g xs cs =>
      cases g with
      | func g =>
        cases b with
        | fn h ys ds => cases h <;> simp only [eqv] <;> rfl
        | _ => simp only [eqv] <;> rfl
      | _ => cases b <;> simp only [eqv] <;> rfl
    | _ => cases b <;> simp only [eqv] <;> rfl
def findMemoF (f : FuncId) (args : List AVal) : List (FuncId × List AVal × AVal) → Option AVal
  | [] => none
  | (g, as, v) :: M => bif Nat.beq g f && eqvL (eqvF 40) as args then some v else findMemoF f args M
theorem findMemoF_eq (f : FuncId) (args : List AVal) : ∀ M, findMemoF f args M = findMemo f args M
  | [] => rfl
  | (g, as, v) :: M => by simp only [findMemoF, findMemo, findMemoF_eq f args M, eqvF_eq]
theorem evOF_eq (nt : Nat) (T : Tr) : evOF nt T = evO nt T := by
  funext x
  cases x with
  | tmp t => show Bool.rec (motive := fun _ => AVal) .any (getT T t) (Nat.blt t nt) = _; rw [getT_eq]; simp only [evO]; cases Nat.blt t nt <;> rfl
  | _ => rfl

def qstepN_mv (e : Operand → AVal) (x : Operand) : Option AVal := some (e x)
def qstepN_pick (e : Operand → AVal) (c : Operand) (a : Operand) (b : Operand) : Option AVal := match e c with | .bool t => some (bif t then e a else e b) | _ => none
def qstepN_build (e : Operand → AVal) (z : List AVal) (parts : List (Nat × Nat × Operand)) : Option AVal := (fillP e z parts).map .agg
def qstepN_nilck (e : Operand → AVal) (x : Operand) : Option AVal := let v := e x; bif v.there then some v else none
def qstepN_bin (e : Operand → AVal) (b : BinOp) (x : Operand) (y : Operand) : Option AVal := binF b (e x) (e y)
def qstepN_cat (e : Operand → AVal) (x : Operand) (y : Operand) : Option AVal := match e x, e y with
    | .str s, .str t => bif Nat.ble (s.size + t.size) 9223372036854775807 then some (.str (s ++ t)) else none
    | _, _ => none
def qstepN_div (e : Operand → AVal) (b : BinOp) (x : Operand) (y : Operand) : Option AVal := match b, e x, e y with
    | .quo, .int k m, .int k' n => if n ≠ 0 ∧ k = k' then some (.int k (k.wrap (m.tdiv n))) else none
    | .rem, .int k m, .int k' n => if n ≠ 0 ∧ k = k' then some (.int k (m.tmod n)) else none
    | _, _, _ => none
def qstepN_shift (e : Operand → AVal) (b : BinOp) (x : Operand) (y : Operand) : Option AVal := match b, e x, e y with
    | .shl, .int k m, .int _ (.ofNat n) => some (.int k (k.wrap (m * 2 ^ (min n k.bits))))
    | .shr, .int k m, .int _ (.ofNat n) => some (.int k (m.fdiv (2 ^ (min n k.bits))))
    | _, _, _ => none
def qstepN_eqk (e : Operand → AVal) (neg : Bool) (ks : List CK) (x : Operand) (y : Operand) : Option AVal := match e x, e y with
    | .agg cs, .agg ds => (eqL ks cs ds).map fun r => .bool (neg != r)
    | _, _ => none
def qstepN_eqb (e : Operand → AVal) (neg : Bool) (x : Operand) (y : Operand) : Option AVal := match e x, e y with
    | .bool p, .bool q => some (.bool (neg != (p == q)))
    | _, _ => none
def qstepN_isS (e : Operand → AVal) (neg : Bool) (x : Operand) : Option AVal := match e x with
    | .nilS => some (.bool (neg != true))
    | .empS => some (.bool (neg != false))
    | .imm _ (_ :: _) _ => some (.bool (neg != false))
    | .row _ _ _ _ (_ + 1) => some (.bool (neg != false))
    | .brow _ _ _ _ => some (.bool (neg != false))
    | _ => none
def qstepN_isI (e : Operand → AVal) (neg : Bool) (x : Operand) : Option AVal := match e x with
    | .nilIface => some (.bool (neg != true))
    | .iface _ _ => some (.bool (neg != false))
    | _ => none
def qstepN_un (e : Operand → AVal) (u : UnOp) (x : Operand) : Option AVal := unA u (e x)
def qstepN_conv (e : Operand → AVal) (k : IntKind) (x : Operand) : Option AVal := match e x with | .int _ n => some (.int k (k.wrap n)) | _ => none
def qstepN_s2s (e : Operand → AVal) (x : Operand) : Option AVal := match e x with | .str s => some (.str s) | _ => none
def qstepN_mkI (e : Operand → AVal) (t : TypeId) (x : Operand) : Option AVal := some (.iface t (e x))
def qstepN_mkF (e : Operand → AVal) (fn : Fn) (first : List Operand) (cap : List Operand) : Option AVal := some (.fn fn (first.map e) (cap.map e))
def qstepN_slS (e : Operand → AVal) (sz : Nat) (x : Operand) (l : Option Operand) (hO : Option Operand) (m : Option Operand) : Option AVal := match e x with
    | .imm sz' xs full => match natOf 0 e l, natOf xs.length e hO with
      | some l, some h => match m with
        | none => bif (Nat.beq sz sz' || xs.isEmpty) && Nat.ble l h && Nat.ble h xs.length then some (.imm sz' ((xs.drop l).take (h - l)) (full && Nat.beq h xs.length)) else none
        | some _ => match natOf 0 e m with
          | some m => bif hO.isSome && (Nat.beq sz sz' || xs.isEmpty) && Nat.ble l h && Nat.ble h m && Nat.ble m xs.length then some (.imm sz' ((xs.drop l).take (h - l)) (Nat.beq h m)) else none
          | none => none
      | _, _ => none
    | .row n k sz' off len => match natOf 0 e l, natOf len e hO with
      | some l, some h => match m with
        | none => bif Nat.ble l h && Nat.ble h len && Nat.beq sz sz' then some (.row n k sz' (off + l) (h - l)) else none
        | some _ => none
      | _, _ => none
    | .brow n sz' off len => match natOf 0 e l, natOf len e hO, m with
      | some l, some h, none => bif Nat.ble l h && Nat.ble h len && Nat.beq sz sz' then some (.brow n sz' (off + l) (h - l)) else none
      | _, _, _ => none
    | .nilS => match natOf 0 e l, natOf 0 e hO, m with
      | some 0, some 0, none => some .nilS
      | _, _, _ => none
    | _ => none
def qstepN_slA (e : Operand → AVal) (n : Nat) (sz : Nat) (x : Operand) (l : Option Operand) (h : Option Operand) (m : Option Operand) : Option AVal := match e x, natOf 0 e l, natOf n e h, m with
    | .ptr b 0 0, some l, some h, none => bif Nat.ble l h && Nat.ble h n && Nat.ble n maxLen then some (.brow b sz l (h - l)) else none
    | _, _, _, _ => none
def qstepN_slT (e : Operand → AVal) (x : Operand) (l : Option Operand) (h : Option Operand) : Option AVal := match e x with
    | .str s => match natOf 0 e l, natOf s.size e h with
      | some l, some h => bif Nat.ble l h && Nat.ble h s.size then some (.str (s.extract l h)) else none
      | _, _ => none
    | _ => none
def qstepN_fa (e : Operand → AVal) (off : Nat) (x : Operand) : Option AVal := ptrA (e x) off
def qstepN_fld (e : Operand → AVal) (off : Nat) (s : Nat) (ag : Bool) (x : Operand) : Option AVal := match e x with
    | .agg cs => bif Nat.ble (off + s) cs.length then some (getL cs off s ag) else none
    | _ => none
def qstepN_iaS (e : Operand → AVal) (sz : Nat) (x : Operand) (i : Operand) : Option AVal := match e x, e i with
    | .imm sz' xs _, .int _ (.ofNat i) => bif Nat.beq sz sz' then (xs[i]?).map fun x => .iptr x 0 else none
    | .row n k sz' off len, .int _ (.ofNat i) => bif Nat.blt i len && Nat.beq sz sz' then some (.rptr n k sz' (off + i) 0) else none
    | .brow n sz' off len, .int _ (.ofNat i) => bif Nat.blt i len && Nat.beq sz sz' then some (.ptr n 0 ((off + i) * sz')) else none
    | _, _ => none
def qstepN_iaA (e : Operand → AVal) (n : Nat) (sz : Nat) (x : Operand) (i : Operand) : Option AVal := match e i with
    | .int _ (.ofNat i) => bif Nat.blt i n then ptrA (e x) (i * sz) else none
    | _ => none
def qstepN_ixA (e : Operand → AVal) (n : Nat) (s : Nat) (ag : Bool) (x : Operand) (i : Operand) : Option AVal := match e x, e i with
    | .agg cs, .int _ (.ofNat i) => bif Nat.blt i n && Nat.ble (i * s + s) cs.length then some (getL cs (i * s) s ag) else none
    | _, _ => none
def qstepN_ixT (e : Operand → AVal) (x : Operand) (i : Operand) : Option AVal := match e x, e i with
    | .str s, .int _ (.ofNat i) => (s.data.toList[i]?).map fun b => .int .u8 b.toNat
    | _, _ => none
def qstepN_ext (e : Operand → AVal) (x : Operand) (i : Nat) : Option AVal := match e x with
    | .tuple vs => vs[i]?
    | _ => none
def qstepN_lenS (e : Operand → AVal) (x : Operand) : Option AVal := (lenOf (e x)).map goIntA
def qstepN_lenT (e : Operand → AVal) (x : Operand) : Option AVal := match e x with | .str s => some (goIntA s.size) | _ => none
def qstepN_lenA (e : Operand → AVal) (n : Nat) : Option AVal := some (goIntA n)
def qstepN_mn (e : Operand → AVal) (xs : List Operand) : Option AVal := minL (xs.map e)
def qstepN_mx (e : Operand → AVal) (xs : List Operand) : Option AVal := maxL (xs.map e)
def stepNF (e : Operand → AVal) : AOp → Option AVal
  | .mv x => qstepN_mv e x
  | .pick c a b => qstepN_pick e c a b
  | .build z parts => qstepN_build e z parts
  | .nilck x => qstepN_nilck e x
  | .bin b x y => qstepN_bin e b x y
  | .cat x y => qstepN_cat e x y
  | .div b x y => qstepN_div e b x y
  | .shift b x y => qstepN_shift e b x y
  | .eqk neg ks x y => qstepN_eqk e neg ks x y
  | .eqb neg x y => qstepN_eqb e neg x y
  | .isS neg x => qstepN_isS e neg x
  | .isI neg x => qstepN_isI e neg x
  | .un u x => qstepN_un e u x
  | .conv k x => qstepN_conv e k x
  | .s2s x => qstepN_s2s e x
  | .mkI t x => qstepN_mkI e t x
  | .mkF fn first cap => qstepN_mkF e fn first cap
  | .slS sz x l hO m => qstepN_slS e sz x l hO m
  | .slA n sz x l h m => qstepN_slA e n sz x l h m
  | .slT x l h => qstepN_slT e x l h
  | .fa off x => qstepN_fa e off x
  | .fld off s ag x => qstepN_fld e off s ag x
  | .iaS sz x i => qstepN_iaS e sz x i
  | .iaA n sz x i => qstepN_iaA e n sz x i
  | .ixA n s ag x i => qstepN_ixA e n s ag x i
  | .ixT x i => qstepN_ixT e x i
  | .ext x i => qstepN_ext e x i
  | .lenS x => qstepN_lenS e x
  | .lenT x => qstepN_lenT e x
  | .lenA n => qstepN_lenA e n
  | .mn xs => qstepN_mn e xs
  | .mx xs => qstepN_mx e xs
  | _ => none
theorem stepNF_eq (e : Operand → AVal) (o : AOp) : stepNF e o = stepN e o := by cases o <;> first | rfl | exact binF_eq _ _ _
noncomputable def qstepR_load (e : Operand → AVal) (H : AHeap) (s : Nat) (ag : Bool) (a : Operand) : Option AVal := match e a with
    | .ptr n 0 off => match getO H n with
      | some (.cells x) => bif Nat.ble (off + s) x.cells.length then some (getA x off s ag) else none
      | _ => none
    | .iptr x off => bif Nat.ble (off + s) x.cells.length then some (getA x off s ag) else none
    | .rptr n k sz j off => match getO H n with
      | some (.row sz' k' xs) => bif Nat.beq sz sz' && Nat.beq k k' then match xs[j]? with
          | some x => bif Nat.ble (off + s) x.cells.length then some (getA x off s ag) else none
          | none => none
        else none
      | _ => none
    | _ => none
noncomputable def qstepR_s2b (e : Operand → AVal) (H : AHeap) (x : Operand) : Option AVal := match e x with
    | .str s => bif Nat.ble s.size maxLen then some (.imm 1 (s.data.toList.map fun b => .int .u8 b.toNat) false) else none
    | _ => none
noncomputable def qstepR_b2s (e : Operand → AVal) (H : AHeap) (x : Operand) : Option AVal := match elems H (e x) with
    | some xs => (bytesOf xs).map fun l => .str ⟨l.toArray⟩
    | none => none
noncomputable def qstepR_look (e : Operand → AVal) (H : AHeap) (ks : List CK) (z : AVal) (ok : Bool) (m : Operand) (k : Operand) : Option AVal := match e m with
    | .map n => match getO H n with
      | some (.map es) => match e k with
        | .agg cs => bif Nat.beq cs.length ks.length then match findA ks (.agg cs) es 0 with
            | some (some (_, v)) => some (bif ok then .tuple [v, .bool true] else v)
            | some none => some (bif ok then .tuple [z, .bool false] else z)
            | none => none
          else none
        | _ => none
      | _ => none
    | _ => none
noncomputable def qstepR_lenM (e : Operand → AVal) (H : AHeap) (x : Operand) : Option AVal := match e x with
    | .map n => match getO H n with
      | some (.map es) => some (goIntA es.length)
      | _ => none
    | .nilMap => some (goIntA 0)
    | _ => none
noncomputable def stepRF (e : Operand → AVal) (H : AHeap) : AOp → Option AVal
  | .load s ag a => qstepR_load e H s ag a
  | .s2b x => qstepR_s2b e H x
  | .b2s x => qstepR_b2s e H x
  | .look ks z ok m k => qstepR_look e H ks z ok m k
  | .lenM x => qstepR_lenM e H x
  | _ => none
theorem stepRF_eq (e : Operand → AVal) (H : AHeap) (o : AOp) : stepRF e H o = stepR e H o := by cases o <;> first | rfl | (simp only [stepRF, qstepR_load, qstepR_s2b, qstepR_b2s, qstepR_look, qstepR_lenM, getO_eq]; rfl)
def qstepL_alloc (e : Operand → AVal) (n : Nat) (z : AVal) : Option (AVal × AObj) := some (.ptr n 0 0, .cells z)
def qstepL_box (e : Operand → AVal) (n : Nat) (x : Operand) : Option (AVal × AObj) := let v := e x; bif v.boxable then some (.ptr n 0 0, .cells v) else none
def qstepL_bslice (e : Operand → AVal) (n : Nat) (sz : Nat) (z : List AVal) (len : Nat) (parts : List (Nat × Operand)) : Option (AVal × AObj) := (fillR e sz (List.replicate len (.agg z)) parts).map fun xs => (.row n 0 sz 0 len, .row sz 0 xs)
def qstepL_mkM (e : Operand → AVal) (n : Nat)  : Option (AVal × AObj) := some (.map n, .map [])
def qstepL_mkS (e : Operand → AVal) (n : Nat) (sz : Nat) (z : List AVal) (bytes : Nat) (l : Operand) (c : Operand) : Option (AVal × AObj) := match e l, e c with
    | .int _ (.ofNat l), .int _ (.ofNat c) => bif Nat.ble l c && Nat.ble (bytes * c) 281474976710656 && Nat.ble c 281474976710656 then some (.row n 0 sz 0 l, .row sz 0 (List.replicate c (.agg z))) else none
    | _, _ => none
def stepLF (e : Operand → AVal) (n : Nat) : AOp → Option (AVal × AObj)
  | .alloc z => qstepL_alloc e n z
  | .box x => qstepL_box e n x
  | .bslice sz z len parts => qstepL_bslice e n sz z len parts
  | .mkM  => qstepL_mkM e n
  | .mkS sz z bytes l c => qstepL_mkS e n sz z bytes l c
  | _ => none
theorem stepLF_eq (e : Operand → AVal) (n : Nat) (o : AOp) : stepLF e n o = stepL e n o := by cases o <;> rfl
noncomputable def qstepW_store (e : Operand → AVal) (H : AHeap) (s : Nat) (a : Operand) (x : Operand) : Option (AVal × AHeap × Nat) := 
    let v := e x
    bif v.boxable && Nat.beq v.cells.length s then match e a with
      | .ptr n 0 off => match getO H n with
        | some (.cells y) => bif Nat.ble (off + s) y.cells.length then some (.any, H.set n (.cells (setA y off v)), n) else none
        | _ => none
      | .rptr n k sz j off => match getO H n with
        | some (.row sz' k' xs) => bif Nat.beq sz sz' && Nat.beq k k' then match xs[j]? with
            | some y => bif Nat.ble (off + s) y.cells.length then some (.any, H.set n (.row sz k (xs.set j (setA y off v))), n) else none
            | none => none
          else none
        | _ => none
      | _ => none
    else none
noncomputable def qstepW_mup (e : Operand → AVal) (H : AHeap) (ks : List CK) (m : Operand) (k : Operand) (v : Operand) : Option (AVal × AHeap × Nat) := match e m with
    | .map n => match getO H n with
      | some (.map es) => match e k with
        | .agg cs => bif Nat.beq cs.length ks.length then match findA ks (.agg cs) es 0 with
            | some (some (i, _)) => some (.any, H.set n (.map (es.set i (.agg cs, e v))), n)
            | some none => some (.any, H.set n (.map (es ++ [(.agg cs, e v)])), n)
            | none => none
          else none
        | _ => none
      | _ => none
    | _ => none
noncomputable def qstepW_clr (e : Operand → AVal) (H : AHeap) (sz : Nat) (z : List AVal) (x : Operand) : Option (AVal × AHeap × Nat) := match e x with
    | .imm _ [] _ | .nilS | .empS => some (.tuple [], H, H.length)
    | .row n k sz' off len => bif Nat.beq len 0 then some (.tuple [], H, H.length) else match getO H n with
      | some (.row sz2 k2 xs) => bif Nat.beq sz sz' && Nat.beq sz sz2 && Nat.beq k k2 && Nat.ble (off + len) xs.length then some (.tuple [], H.set n (.row sz k (spliceL xs off (List.replicate len (.agg z)))), n) else none
      | _ => none
    | _ => none
noncomputable def qstepW_app (e : Operand → AVal) (H : AHeap) (sz : Nat) (bytes : Nat) (s : Operand) (x : Operand) : Option (AVal × AHeap × Nat) := match elems H (e x) with
    | none => none
    | some ys =>
      bif ys.isEmpty then (lenOf (e s)).map fun _ => (e s, H, H.length)
      else bif ys.all (fun y => Nat.beq y.cells.length sz) then
        let fresh (xs : List AVal) : Option (AVal × AHeap × Nat) := bif Nat.ble ((xs.length + ys.length) * bytes) 140737488355328 && Nat.ble (xs.length + ys.length) 140737488355328 && xs.all (fun y => Nat.beq y.cells.length sz) then some (.row H.length 0 sz 0 (xs.length + ys.length), H ++ [.row sz 0 (xs ++ ys)], H.length) else none
        match e s with
        | .nilS => fresh []
        | .imm _ xs true => fresh xs
        | .row n k sz' off len => match getO H n with
          | some (.row sz2 k2 xs) => bif Nat.beq sz sz' && Nat.beq sz sz2 && Nat.beq k k2 && Nat.beq off 0 && Nat.ble len xs.length && Nat.ble ((len + ys.length) * bytes) 140737488355328 && Nat.ble (len + ys.length) 140737488355328 then
              some (.row n (k + 1) sz 0 (len + ys.length), H.set n (.row sz (k + 1) (xs.take len ++ ys)), n)
            else none
          | _ => none
        | _ => none
      else none
noncomputable def stepWF (e : Operand → AVal) (H : AHeap) : AOp → Option (AVal × AHeap × Nat)
  | .store s a x => qstepW_store e H s a x
  | .mup ks m k v => qstepW_mup e H ks m k v
  | .clr sz z x => qstepW_clr e H sz z x
  | .app sz bytes s x => qstepW_app e H sz bytes s x
  | _ => none
theorem stepWF_eq (e : Operand → AVal) (H : AHeap) (o : AOp) : stepWF e H o = stepW e H o := by cases o <;> first | rfl | (simp only [stepWF, qstepW_store, qstepW_mup, qstepW_clr, qstepW_app, getO_eq]; rfl)

/-! ### Values laid bare before they are handed on -/
section
variable {R : Type}
def fN (a : Nat) (k : Nat → R) : R := match a with | 0 => k 0 | n + 1 => k (n + 1)
theorem fN_eq (a : Nat) (k : Nat → R) : fN a k = k a := by cases a <;> rfl
def fI (n : Int) (k : Int → R) : R := match n with | .ofNat a => fN a fun a => k (.ofNat a) | .negSucc a => fN a fun a => k (.negSucc a)
theorem fI_eq (n : Int) (k : Int → R) : fI n k = k n := by cases n <;> simp only [fI, fN_eq]
def fB (b : Bool) (k : Bool → R) : R := match b with | true => k true | false => k false
theorem fB_eq (b : Bool) (k : Bool → R) : fB b k = k b := by cases b <;> rfl
noncomputable def fL {α : Type} (f : α → (α → R) → R) (l : List α) : (List α → R) → R := List.rec (motive := fun _ => (List α → R) → R) (fun k => k []) (fun a _ ih k => f a fun a => ih fun l => k (a :: l)) l
theorem fL_eq {α : Type} {f : α → (α → R) → R} (hf : ∀ a k, f a k = k a) : ∀ (l : List α) (k : List α → R), fL f l k = k l
  | [], k => rfl
  | a :: l, k => by show f a (fun a => fL f l fun l => k (a :: l)) = _; rw [hf, fL_eq hf l]
def fId {α : Type} (a : α) (k : α → R) : R := k a
noncomputable def fV : Nat → AVal → (AVal → R) → R
  | 0, v, k => k v
  | f + 1, v, k => match v with
    | .bool b => fB b fun b => k (.bool b)
    | .int t n => fI n fun n => k (.int t n)
    | .ptr n g o => fN n fun n => fN g fun g => fN o fun o => k (.ptr n g o)
    | .rptr n g sz j o => fN n fun n => fN g fun g => fN j fun j => fN o fun o => k (.rptr n g sz j o)
    | .row n g sz o l => fN n fun n => fN g fun g => fN o fun o => fN l fun l => k (.row n g sz o l)
    | .brow n sz o l => fN n fun n => fN o fun o => fN l fun l => k (.brow n sz o l)
    | .agg cs => fL (fV f) cs fun cs => k (.agg cs)
    | .tuple cs => fL (fV f) cs fun cs => k (.tuple cs)
    | v => k v
theorem fV_eq : ∀ (f : Nat) (v : AVal) (k : AVal → R), fV f v k = k v
  | 0, v, k => rfl
  | f + 1, v, k => by
    cases v <;> simp only [fV, fB_eq, fI_eq, fN_eq, fL_eq (fV_eq f)]
noncomputable def fO (o : AObj) (k : AObj → R) : R := match o with
  | .cells x => fV 2 x fun x => k (.cells x)
  | .row sz g xs => fN g fun g => fL fId xs fun xs => k (.row sz g xs)
  | .map es => fL fId es fun es => k (.map es)
  | o => k o
theorem fId_eq {α : Type} (a : α) (k : α → R) : fId a k = k a := rfl
theorem fO_eq (o : AObj) (k : AObj → R) : fO o k = k o := by
  cases o <;> simp only [fO, fV_eq, fN_eq, fL_eq fId_eq]
/-- The object of one name laid bare, and the list up to it. -/
noncomputable def fAt : Nat → AHeap → (AHeap → R) → R
  | _, [], k => k []
  | 0, o :: H, k => fO o fun o => k (o :: H)
  | n + 1, o :: H, k => fAt n H fun H => k (o :: H)
theorem fAt_eq : ∀ (n : Nat) (H : AHeap) (k : AHeap → R), fAt n H k = k H
  | 0, [], k => rfl
  | _ + 1, [], k => rfl
  | 0, o :: H, k => by simp only [fAt, fO_eq]
  | n + 1, o :: H, k => by simp only [fAt, fAt_eq n H]
noncomputable def fH (H : AHeap) (k : AHeap → R) : R := fL fId H k
theorem fH_eq (H : AHeap) (k : AHeap → R) : fH H k = k H := fL_eq fId_eq H k
noncomputable def setK (T : Tr) : Nat → AVal → (Tr → R) → R := Tr.rec (motive := fun _ => Nat → AVal → (Tr → R) → R) (fun i v k => k (Tr.l.set i v))
  (fun u a b iha ihb i v k => Nat.rec (motive := fun _ => R) (k (.n v a b)) (fun i _ => Bool.rec (motive := fun _ => R) (ihb (i / 2) v (fun b => k (.n u a b))) (iha (i / 2) v (fun a => k (.n u a b))) (Nat.beq (i % 2) 0)) i) T
theorem setK_eq : ∀ (T : Tr) (i : Nat) (v : AVal) (k : Tr → R), setK T i v k = k (T.set i v)
  | .l, i, v, k => rfl
  | .n u a b, 0, v, k => rfl
  | .n u a b, i + 1, v, k => by
    show Bool.rec (motive := fun _ => R) (setK b (i / 2) v (fun b => k (.n u a b))) (setK a (i / 2) v (fun a => k (.n u a b))) (Nat.beq (i % 2) 0) = _
    rw [setK_eq a, setK_eq b]
    simp only [Tr.set]
    cases Nat.beq (i % 2) 0 <;> rfl
/-- A tree laid bare. -/
noncomputable def fT (T : Tr) : (Tr → R) → R := Tr.rec (motive := fun _ => (Tr → R) → R) (fun k => k .l) (fun u _ _ iha ihb k => iha fun a => ihb fun b => k (.n u a b)) T
theorem fT_eq : ∀ (T : Tr) (k : Tr → R), fT T k = k T
  | .l, k => rfl
  | .n u a b, k => by show fT a (fun a => fT b fun b => k (.n u a b)) = _; rw [fT_eq a, fT_eq b]
noncomputable def setOK (T : Tr) (d : Option Nat) (v : AVal) (k : Tr → R) : R := Option.rec (motive := fun _ => R) (k T) (fun d => setK T d v k) d
theorem setOK_eq (T : Tr) (d : Option Nat) (v : AVal) (k : Tr → R) : setOK T d v k = k (T.setO d v) := by
  cases d with
  | none => rfl
  | some d => show setK T d v k = _; rw [setK_eq]; rfl
end

/-- Whether what an operation gives is laid bare. -/
def AOp.bare : AOp → Bool
  | .mv _ | .pick _ _ _ => false
  | _ => true
/-- The object that an operation writes. -/
def wName (e : Operand → AVal) (n : Nat) : AOp → Nat
  | .store _ a _ => (nameOf (e a)).getD n
  | .mup _ m _ _ => (nameOf (e m)).getD n
  | .clr _ _ x => (nameOf (e x)).getD n
  | _ => n
noncomputable def bareV (b : Bool) (v : AVal) (k : AVal → Out) : Out := bif b then fV 2 v k else k v
theorem bareV_eq (b : Bool) (v : AVal) (k : AVal → Out) : bareV b v k = k v := by cases b <;> simp only [bareV, fV_eq, cond_true, cond_false]
noncomputable def snocK {R : Type} (o : AObj) (k : AHeap → R) (l : AHeap) : R := List.rec (motive := fun _ => (AHeap → R) → R) (fun k => k [o]) (fun a _ ih k => ih (fun l => k (a :: l))) l k
theorem snocK_eq {R : Type} (o : AObj) : ∀ (H : AHeap) (k : AHeap → R), snocK o k H = k (H ++ [o])
  | [], k => rfl
  | a :: l, k => by show snocK o (fun l => k (a :: l)) l = _; rw [snocK_eq o l]; rfl
noncomputable def stepK (e : Operand → AVal) (H : AHeap) (lo : Nat) (op : AOp) (none' : Out) (k : AVal → AHeap → Nat → Out) : Out :=
  match op.kd with
  | .n => match stepNF e op with
    | some v => bareV op.bare v fun v => k v H lo
    | none => none'
  | .r => match stepRF e H op with
    | some v => fV 2 v fun v => k v H lo
    | none => none'
  | .a => fN (lenO H) fun n => match stepLF e n op with
    | some (v, ob) => fV 2 v fun v => fO ob fun ob => fN (Nat.min lo n) fun lo => snocK ob (fun H => k v H lo) H
    | none => none'
  | .w => match stepWF e H op with
    | some (v, H1, lo1) => fN (lenO H) fun n => fN (wName e n op) fun w => fV 2 v fun v => fN (Nat.min lo lo1) fun lo => fAt w H1 fun H => k v H lo
    | none => none'
theorem stepK_eq (e : Operand → AVal) (H : AHeap) (lo : Nat) (op : AOp) (none' : Out) (k : AVal → AHeap → Nat → Out) : stepK e H lo op none' k = match stepA e H op with
    | some (v, H1, lo1) => k v H1 (stepLo op lo lo1)
    | none => none' := by
  unfold stepK stepA stepLo
  cases hk : op.kd with
  | n => simp only [stepNF_eq, bareV_eq]; cases stepN e op <;> rfl
  | r => simp only [stepRF_eq, fV_eq]; cases stepR e H op <;> rfl
  | a =>
    simp only [fN_eq, lenO_eq, stepLF_eq, fV_eq, fO_eq, snocK_eq]
    cases stepL e H.length op with
    | none => rfl
    | some p => rfl
  | w =>
    simp only [stepWF_eq, fN_eq, fV_eq, fAt_eq]


/-! ### One look at an operation -/
noncomputable def kN (r : Option AVal) (H : AHeap) (lo : Nat) (z : Out) (k : AVal → AHeap → Nat → Out) : Out := Option.rec (motive := fun _ => Out) z (fun v => fV 2 v fun v => k v H lo) r
noncomputable def kN0 (r : Option AVal) (H : AHeap) (lo : Nat) (z : Out) (k : AVal → AHeap → Nat → Out) : Out := Option.rec (motive := fun _ => Out) z (fun v => k v H lo) r
noncomputable def kA2 (H : AHeap) (lo n : Nat) (k : AVal → AHeap → Nat → Out) (v : AVal) (ob : AObj) : Out := fV 2 v fun v => fO ob fun ob => fN (Nat.min lo n) fun lo => snocK ob (fun H => k v H lo) H
noncomputable def kA (f : Nat → Option (AVal × AObj)) (H : AHeap) (lo : Nat) (z : Out) (k : AVal → AHeap → Nat → Out) : Out := fN (lenO H) fun n => Option.rec (motive := fun _ => Out) z (fun p => kA2 H lo n k p.1 p.2) (f n)
noncomputable def kW2 (w : Nat → Nat) (H : AHeap) (lo : Nat) (k : AVal → AHeap → Nat → Out) (v : AVal) (H1 : AHeap) (lo1 : Nat) : Out := fN (lenO H) fun n => fN (w n) fun w => fV 2 v fun v => fN (Nat.min lo lo1) fun lo => fAt w H1 fun H => k v H lo
noncomputable def kW (r : Option (AVal × AHeap × Nat)) (w : Nat → Nat) (H : AHeap) (lo : Nat) (z : Out) (k : AVal → AHeap → Nat → Out) : Out := Option.rec (motive := fun _ => Out) z (fun p => kW2 w H lo k p.1 p.2.1 p.2.2) r
/-- What a store lays, and where. -/
noncomputable def qstoreF2 (e : Operand → AVal) (H : AHeap) (s : Nat) (v : AVal) (a : Operand) : Option (Nat × AObj) := match e a with
      | .ptr n 0 off => match getO H n with
        | some (.cells y) => bif Nat.ble (off + s) y.cells.length then some (n, .cells (setA y off v)) else none
        | _ => none
      | .rptr n k sz j off => match getO H n with
        | some (.row sz' k' xs) => bif Nat.beq sz sz' && Nat.beq k k' then match getO xs j with
            | some y => bif Nat.ble (off + s) y.cells.length then some (n, .row sz k (xs.set j (setA y off v))) else none
            | none => none
          else none
        | _ => none
      | _ => none
noncomputable def qstoreF (e : Operand → AVal) (H : AHeap) (s : Nat) (a x : Operand) : Option (Nat × AObj) :=
  bif (e x).boxable && Nat.beq (e x).cells.length s then qstoreF2 e H s (e x) a else none
theorem qstoreF_eq (e : Operand → AVal) (H : AHeap) (s : Nat) (a x : Operand) : stepW e H (.store s a x) = (qstoreF e H s a x).map fun p => (.any, H.set p.1 p.2, p.1) := by
  simp only [stepW, qstoreF, qstoreF2, getO_eq]
  cases (e x).boxable && Nat.beq (e x).cells.length s with
  | false => rfl
  | true =>
    simp only [cond_true]
    generalize e a = p
    cases p with
    | ptr n g off =>
      cases g with
      | zero =>
        generalize hH : H[n]? = q
        simp only [hH]
        cases q with
        | none => rfl
        | some o =>
          cases o with
          | cells y => simp only; cases Nat.ble (off + s) y.cells.length <;> rfl
          | _ => rfl
      | succ g => rfl
    | rptr n k sz j off =>
      generalize hH : H[n]? = q
      simp only [hH]
      cases q with
      | none => rfl
      | some o =>
        cases o with
        | row sz' k' xs =>
          simp only
          cases Nat.beq sz sz' && Nat.beq k k' with
          | false => rfl
          | true =>
            simp only [cond_true]
            cases xs[j]? with
            | none => rfl
            | some y => simp only; cases Nat.ble (off + s) y.cells.length <;> rfl
        | _ => rfl
    | _ => rfl
noncomputable def setLK {R : Type} (l : AHeap) : Nat → AObj → (AHeap → R) → R := List.rec (motive := fun _ => Nat → AObj → (AHeap → R) → R) (fun _ _ k => k []) (fun a l ih n x k => Nat.rec (motive := fun _ => R) (k (x :: l)) (fun m _ => ih m x fun l => k (a :: l)) n) l
theorem setLK_eq {R : Type} : ∀ (l : AHeap) (n : Nat) (x : AObj) (k : AHeap → R), setLK l n x k = k (l.set n x)
  | [], n, x, k => rfl
  | a :: l, 0, x, k => rfl
  | a :: l, n + 1, x, k => by show setLK l n x (fun l => k (a :: l)) = _; rw [setLK_eq l]; rfl
noncomputable def kS (r : Option (Nat × AObj)) (H : AHeap) (lo : Nat) (z : Out) (k : AVal → AHeap → Nat → Out) : Out := Option.rec (motive := fun _ => Out) z (fun p => fO p.2 fun o => fN (Nat.min lo p.1) fun lo => setLK H p.1 o fun H => k .any H lo) r
noncomputable def opDisp (e : Operand → AVal) (H : AHeap) (lo : Nat) (z : Out) (k : AVal → AHeap → Nat → Out) (rcall : Operand → List Operand → Out) (op : AOp) : Out :=
  AOp.rec (motive := fun _ => Out)
    (fun x0 => kN0 (qstepN_mv e x0) H lo z k)
    (fun c0 a1 b2 => kN0 (qstepN_pick e c0 a1 b2) H lo z k)
    (fun z0 => kA (fun n => qstepL_alloc e n z0) H lo z k)
    (fun x0 => kA (fun n => qstepL_box e n x0) H lo z k)
    (fun z0 parts1 => kN (qstepN_build e z0 parts1) H lo z k)
    (fun sz0 z1 len2 parts3 => kA (fun n => qstepL_bslice e n sz0 z1 len2 parts3) H lo z k)
    (fun s0 ag1 a2 => kN (qstepR_load e H s0 ag1 a2) H lo z k)
    (fun s0 a1 x2 => kS (qstoreF e H s0 a1 x2) H lo z k)
    (fun x0 => kN (qstepN_nilck e x0) H lo z k)
    (fun b0 x1 y2 => kN (qstepN_bin e b0 x1 y2) H lo z k)
    (fun x0 y1 => kN (qstepN_cat e x0 y1) H lo z k)
    (fun b0 x1 y2 => kN (qstepN_div e b0 x1 y2) H lo z k)
    (fun b0 x1 y2 => kN (qstepN_shift e b0 x1 y2) H lo z k)
    (fun neg0 ks1 x2 y3 => kN (qstepN_eqk e neg0 ks1 x2 y3) H lo z k)
    (fun neg0 x1 y2 => kN (qstepN_eqb e neg0 x1 y2) H lo z k)
    (fun neg0 x1 => kN (qstepN_isS e neg0 x1) H lo z k)
    (fun neg0 x1 => kN (qstepN_isI e neg0 x1) H lo z k)
    (fun u0 x1 => kN (qstepN_un e u0 x1) H lo z k)
    (fun k0 x1 => kN (qstepN_conv e k0 x1) H lo z k)
    (fun x0 => kN (qstepN_s2s e x0) H lo z k)
    (fun x0 => kN (qstepR_s2b e H x0) H lo z k)
    (fun x0 => kN (qstepR_b2s e H x0) H lo z k)
    (fun t0 x1 => kN (qstepN_mkI e t0 x1) H lo z k)
    (fun fn0 first1 cap2 => kN (qstepN_mkF e fn0 first1 cap2) H lo z k)
    (kA (fun n => qstepL_mkM e n ) H lo z k)
    (fun sz0 z1 bytes2 l3 c4 => kA (fun n => qstepL_mkS e n sz0 z1 bytes2 l3 c4) H lo z k)
    (fun sz0 x1 l2 h3 m4 => kN (qstepN_slS e sz0 x1 l2 h3 m4) H lo z k)
    (fun n0 sz1 x2 l3 h4 m5 => kN (qstepN_slA e n0 sz1 x2 l3 h4 m5) H lo z k)
    (fun x0 l1 h2 => kN (qstepN_slT e x0 l1 h2) H lo z k)
    (fun off0 x1 => kN (qstepN_fa e off0 x1) H lo z k)
    (fun off0 s1 ag2 x3 => kN (qstepN_fld e off0 s1 ag2 x3) H lo z k)
    (fun sz0 x1 i2 => kN (qstepN_iaS e sz0 x1 i2) H lo z k)
    (fun n0 sz1 x2 i3 => kN (qstepN_iaA e n0 sz1 x2 i3) H lo z k)
    (fun n0 s1 ag2 x3 i4 => kN (qstepN_ixA e n0 s1 ag2 x3 i4) H lo z k)
    (fun x0 i1 => kN (qstepN_ixT e x0 i1) H lo z k)
    (fun ks0 z1 ok2 m3 k4 => kN (qstepR_look e H ks0 z1 ok2 m3 k4) H lo z k)
    (fun ks0 m1 k2 v3 => kW (qstepW_mup e H ks0 m1 k2 v3) (fun n => wName e n (.mup ks0 m1 k2 v3)) H lo z k)
    (fun x0 i1 => kN (qstepN_ext e x0 i1) H lo z k)
    (fun f0 args1 => rcall f0 args1)
    (fun sz0 bytes1 s2 x3 => kW (qstepW_app e H sz0 bytes1 s2 x3) (fun n => wName e n (.app sz0 bytes1 s2 x3)) H lo z k)
    (fun x0 => kN (qstepN_lenS e x0) H lo z k)
    (fun x0 => kN (qstepN_lenT e x0) H lo z k)
    (fun n0 => kN (qstepN_lenA e n0) H lo z k)
    (fun x0 => kN (qstepR_lenM e H x0) H lo z k)
    (fun xs0 => kN (qstepN_mn e xs0) H lo z k)
    (fun xs0 => kN (qstepN_mx e xs0) H lo z k)
    (fun sz0 z1 x2 => kW (qstepW_clr e H sz0 z1 x2) (fun n => wName e n (.clr sz0 z1 x2)) H lo z k)
    (z)
    op
theorem opDisp_eq (e : Operand → AVal) (H : AHeap) (lo : Nat) (z : Out) (k : AVal → AHeap → Nat → Out) (rcall : Operand → List Operand → Out) (op : AOp) : opDisp e H lo z k rcall op = match op with
    | .call f args => rcall f args
    | op => stepK e H lo op z k := by
  cases op
  all_goals first | rfl | skip
  all_goals unfold stepK
  all_goals simp only [opDisp, kN, kN0, kA, kA2, kW, kW2, AOp.kd, stepNF, stepRF, stepLF, stepWF, AOp.bare, bareV, cond_true, cond_false, fN_eq, lenO_eq]
  all_goals first | (split <;> rename_i h <;> simp only [h]; done) | skip
  rename_i s a x
  rw [show qstepW_store e H s a x = stepW e H (.store s a x) from stepWF_eq e H (.store s a x), qstoreF_eq]
  unfold kS
  cases qstoreF e H s a x <;> simp only [Option.map_none, Option.map_some, fO_eq, fN_eq, setLK_eq, fV_eq, fAt_eq]

abbrev Rec1 := Job → Out

noncomputable def takeK {R : Type} (l : AHeap) : Nat → (AHeap → R) → R := List.rec (motive := fun _ => Nat → (AHeap → R) → R) (fun _ k => k []) (fun a _ ih n k => Nat.rec (motive := fun _ => R) (k []) (fun m _ => ih m fun l => k (a :: l)) n) l
theorem takeK_eq {R : Type} : ∀ (l : AHeap) (n : Nat) (k : AHeap → R), takeK l n k = k (l.take n)
  | [], n, k => by show k [] = _; rw [List.take_nil]
  | a :: l, 0, k => rfl
  | a :: l, n + 1, k => by show takeK l n (fun l => k (a :: l)) = _; rw [takeK_eq l]; rfl
noncomputable def segAll (p : AObj → Bool) (l : AHeap) : Nat → Nat → Bool := List.rec (motive := fun _ => Nat → Nat → Bool) (fun _ _ => true)
  (fun a _ ih m lo => Nat.rec (motive := fun _ => Bool) true (fun m _ => Nat.rec (motive := fun _ => Bool) (p a && ih m 0) (fun lo _ => ih m lo) lo) m) l
theorem segAll_eq (p : AObj → Bool) : ∀ (l : AHeap) (m lo : Nat), segAll p l m lo = ((l.take m).drop lo).all p
  | [], m, lo => by simp [segAll]
  | a :: l, 0, lo => by show true = _; simp
  | a :: l, m + 1, 0 => by
    show (p a && segAll p l m 0) = _
    rw [segAll_eq p l m 0]; simp
  | a :: l, m + 1, lo + 1 => by
    show segAll p l m lo = _
    rw [segAll_eq p l m lo]; simp
noncomputable def finF (m : Nat) (v : AVal) (H1 : AHeap) (lo : Nat) : Out :=
  match frz m H1 40 v with
  | some v' => bif Nat.ble m lo then takeK H1 m fun H2 => .val v' H2 lo false else bif segAll (belowO m 40) H1 m lo then takeK H1 m fun H2 => .val v' H2 lo false else .val v H1 lo false
  | none => .val v H1 lo false
theorem finF_eq (m : Nat) (v : AVal) (H1 : AHeap) (lo : Nat) : finF m v H1 lo = fin m v H1 lo := by
  unfold finF fin
  simp only [takeK_eq, segAll_eq]
  cases frz m H1 40 v with
  | none => rfl
  | some v' =>
    cases h : Nat.ble m lo with
    | false => rfl
    | true =>
      have : (H1.take m).drop lo = [] := List.drop_eq_nil_of_le (by simp; have := Nat.le_of_ble_eq_true h; omega)
      simp only [this, List.all_nil, cond_true]
noncomputable def resOneF (fn : Func) (T : Tr) (H : AHeap) (P : Program) : ResultVar → Option AVal
    | .tmp t => bif Nat.blt t fn.ntmps then some (getT T t) else none
    | .cell a t => bif Nat.blt a fn.ntmps then match tyA P t, getT T a with
      | some (s, ag), .ptr n 0 off => match getO H n with
        | some (.cells x) => bif Nat.ble (off + s) x.cells.length && (ag || Nat.beq s 1) then some (getA x off s ag) else none
        | _ => none
      | _, _ => none
      else none
theorem resOneF_eq (fn : Func) (T : Tr) (H : AHeap) (P : Program) (r : ResultVar) : resOneF fn T H P r = resA.one fn T H P r := by
  cases r with
  | tmp t => simp only [resOneF, resA.one, getT_eq]
  | cell a t => simp only [resOneF, resA.one, getT_eq, getO_eq]; rfl
noncomputable def resAF (fn : Func) (T : Tr) (H : AHeap) (P : Program) : Option AVal :=
  match fn.results.toList with
  | [] => some (.tuple [])
  | [r] => resOneF fn T H P r
  | rs => (mapO (resOneF fn T H P) rs).map .tuple
theorem resAF_eq (fn : Func) (T : Tr) (H : AHeap) (P : Program) : resAF fn T H P = resA fn T H P := by
  unfold resAF resA
  rw [show resOneF fn T H P = resA.one fn T H P from funext (resOneF_eq fn T H P)]
  rfl

noncomputable def rSeq (rec : Rec1) (nt : Nat) (r : Option Nat) (a b : ACode) (T : Tr) (H : AHeap) (D : List Nat) : Out :=
  match rec (.code nt r a T H D) with
  | .code .normal T H D lo => match rec (.code nt r b T H D) with
    | .code e T H D lo' => .code e T H D (Nat.min lo lo')
    | x => x
  | x => x
noncomputable def rCond (rec : Rec1) (nt : Nat) (r : Option Nat) (c : Operand) (a b : ACode) (T : Tr) (H : AHeap) (D : List Nat) : Out :=
  match evOF nt T c with
  | .bool true => rec (.code nt r a T H D)
  | .bool false => rec (.code nt r b T H D)
  | _ => .fail "cond"
noncomputable def rBlock (rec : Rec1) (nt : Nat) (r : Option Nat) (id : Nat) (a : ACode) (T : Tr) (H : AHeap) (D : List Nat) : Out :=
  match rec (.code nt r a T H D) with
  | .code (.exit i) T H D lo => bif Nat.beq i id then .code .normal T H D lo else .code (.exit i) T H D lo
  | x => x
noncomputable def rLoop (rec : Rec1) (nt : Nat) (r : Option Nat) (a : ACode) (T : Tr) (H : AHeap) (D : List Nat) : Out :=
  match rec (.code nt r a T H D) with
  | .code .normal T H D lo => match rec (.code nt r (.loop a) T H D) with
    | .code e T H D lo' => .code e T H D (Nat.min lo lo')
    | x => x
  | x => x
noncomputable def rReg (rec : Rec1) (nt : Nat) (r : Option Nat) (es : List AEnt) (T : Tr) (H : AHeap) (D : List Nat) : Out :=
  match rec (.ents nt es T H (lenO H)) with
  | .code _ T H _ lo => .code .normal T H D lo
  | x => x
noncomputable def rRegD (rec : Rec1) (nt : Nat) (r : Option Nat) (ps : List (Nat × Nat)) (es : List AEnt) (T : Tr) (H : AHeap) (D : List Nat) : Out :=
  match rec (.entsD nt es T H (lenO H) []) with
  | .draw T H lo acc => bif regC ps acc then .code .normal T H D lo else .fail "order"
  | .fail w => .fail w
  | _ => .fail "job"
noncomputable def rRange (rec : Rec1) (nt : Nat) (r : Option Nat) (f : Operand) (params : Array Tmp) (asg body : Code) (T : Tr) (H : AHeap) (D : List Nat) : Out :=
  bif (match r with | none => true | some n0 => match H[n0]? with | some (.loop _) => true | _ => false) then
      let m := match r with | none => H.length + 1 | some _ => H.length
      let D' := match r with | none => H.length :: D | some _ => D
      let lp : AObj := .loop { st := .ready, pending := none, tr := T, nt := nt, params := params, assign := asg, body := body }
      match rec (.call (evOF nt T f) [.yld m] (match r with | none => H ++ [.defd, lp] | some _ => H ++ [lp])) with
      | .val _ H2 lo _ => match getO H2 m with
        | some (.loop L2) => match L2.st with
          | .busy => .fail "loop busy"
          | _ =>
            let H3 := H2.set m .dead
            match L2.pending with
            | none => .code .normal T H3 D' (Nat.min H.length lo)
            | some .ret => .code .ret T H3 D' (Nat.min H.length lo)
            | some (.exit id) => .code (.exit id) T H3 D' (Nat.min H.length lo)
            | _ => .fail "loop pending"
        | _ => .fail "no loop"
      | .fail w => .fail w
      | _ => .fail "job"
      else .fail "no round"
noncomputable def rCode (rec : Rec1) (nt : Nat) (r : Option Nat) (c : ACode) (T : Tr) (H : AHeap) (D : List Nat) : Out :=
  ACode.rec (motive := fun _ => Out) (.code .normal T H D (lenO H)) (fun id => .code (.exit id) T H D (lenO H)) (.code .ret T H D (lenO H))
    (fun a b _ _ => rSeq rec nt r a b T H D) (fun c a b _ _ => rCond rec nt r c a b T H D) (fun id a _ => rBlock rec nt r id a T H D) (fun a _ => rec (.code nt r a T H D))
    (fun a _ => rLoop rec nt r a T H D) (fun es => rReg rec nt r es T H D) (fun ps es => rRegD rec nt r ps es T H D) (fun f params asg body => rRange rec nt r f params asg body T H D) (.fail "bad") c
noncomputable def rEntCall (rec : Rec1) (nt : Nat) (d : Option Nat) (es : List AEnt) (T : Tr) (H : AHeap) (lo : Nat) (f : Operand) (args : List Operand) : Out :=
  match (fV 1 (evOF nt T f) fun fv => fL (fV 1) (args.map (evOF nt T)) fun as => rec (.call fv as H)) with
  | .val v H1 lo1 _ => fV 2 v fun v => fN (Nat.min lo lo1) fun lo => setOK T d v fun T => rec (.ents nt es T H1 lo)
  | .fail w => .fail w
  | _ => .fail "call"
noncomputable def rEntStep (rec : Rec1) (nt : Nat) (d : Option Nat) (es : List AEnt) (T : Tr) (H : AHeap) (lo : Nat) (op : AOp) : Out :=
  stepK (evOF nt T) H lo op (.fail "op") fun v H lo => setOK T d v fun T => rec (.ents nt es T H lo)
noncomputable def rEntGo (rec : Rec1) (nt : Nat) (en : AEnt) (es : List AEnt) (T : Tr) (H : AHeap) (lo : Nat) : Out :=
  opDisp (evOF nt T) H lo (.fail "op") (fun v H lo => setOK T en.dst v fun T => rec (.ents nt es T H lo)) (fun f args => rEntCall rec nt en.dst es T H lo f args) en.op
theorem rEntGo_eq (rec : Rec1) (nt : Nat) (en : AEnt) (es : List AEnt) (T : Tr) (H : AHeap) (lo : Nat) : rEntGo rec nt en es T H lo = match en.op with
  | .call f args => rEntCall rec nt en.dst es T H lo f args
  | op => rEntStep rec nt en.dst es T H lo op := by
  unfold rEntGo rEntStep
  rw [opDisp_eq]
noncomputable def rEntG (rec : Rec1) (nt : Nat) (en : AEnt) (es : List AEnt) (T : Tr) (H : AHeap) (lo : Nat) (t : Nat) (w : Bool) : Out :=
  match yieldOf (evOF nt T (.tmp t)) with
  | some y => bif (y == some w) then rEntGo rec nt en es T H lo else setOK T en.dst (.tuple []) fun T => rec (.ents nt es T H lo)
  | none => .fail "guard"
noncomputable def rEntGu (rec : Rec1) (nt : Nat) (en : AEnt) (es : List AEnt) (T : Tr) (H : AHeap) (lo : Nat) : Out :=
  Option.rec (motive := fun _ => Out) (rEntGo rec nt en es T H lo) (fun p => rEntG rec nt en es T H lo p.1 p.2) en.guard
noncomputable def rEnts (rec : Rec1) (nt : Nat) (es : List AEnt) (T : Tr) (H : AHeap) (lo : Nat) : Out :=
  List.rec (motive := fun _ => Out) (.code .normal T H [] lo) (fun en es _ => rEntGu rec nt en es T H lo) es
theorem rEntGu_eq (rec : Rec1) (nt : Nat) (en : AEnt) (es : List AEnt) (T : Tr) (H : AHeap) (lo : Nat) : rEntGu rec nt en es T H lo = match en.guard with
    | none => rEntGo rec nt en es T H lo
    | some (t, w) => rEntG rec nt en es T H lo t w := by
  unfold rEntGu
  cases en.guard <;> rfl
theorem rEnts_eq (rec : Rec1) (nt : Nat) (es : List AEnt) (T : Tr) (H : AHeap) (lo : Nat) : rEnts rec nt es T H lo = match es with
  | [] => .code .normal T H [] lo
  | en :: es => match en.guard with
    | none => rEntGo rec nt en es T H lo
    | some (t, w) => rEntG rec nt en es T H lo t w := by
  cases es with
  | nil => rfl
  | cons en es => exact rEntGu_eq rec nt en es T H lo
noncomputable def rEntDCall (rec : Rec1) (nt : Nat) (d : Option Nat) (es : List AEnt) (T : Tr) (H : AHeap) (lo : Nat) (acc : List Cls) (f : Operand) (args : List Operand) : Out :=
  match (fV 1 (evOF nt T f) fun fv => fL (fV 1) (args.map (evOF nt T)) fun as => rec (.call fv as H)) with
          | .val v H1 lo1 free => fV 2 v fun v => fN lo1 fun lo1 => bif free then setOK T d v fun T => rec (.entsD nt es T H lo (.r [] :: acc))
            else fN (lenO H) fun m => bif needR es acc && Nat.ble m lo1 && Nat.beq H1.length m && H.all (belowO m 40) && below m 40 (evOF nt T f) && args.all (fun x => below m 40 (evOF nt T x)) then setOK T d v fun T => rec (.entsD nt es T H lo (.r (List.range H.length) :: acc))
            else bif Nat.ble H.length H1.length then fN (Nat.min lo lo1) fun lo2 => setOK T d v fun T => rec (.entsD nt es T H1 lo2 (.w (.set (changed lo1 (H.drop lo1) (H1.drop lo1)) H.length) :: acc)) else .fail "shrunk"
          | .fail w => .fail w
          | _ => .fail "call"
noncomputable def rEntDStep (rec : Rec1) (nt : Nat) (d : Option Nat) (es : List AEnt) (T : Tr) (H : AHeap) (lo : Nat) (acc : List Cls) (op : AOp) : Out :=
  match footA (evOF nt T) H op with
  | some c => stepK (evOF nt T) H lo op (.fail "op") fun v H lo => setOK T d v fun T => rec (.entsD nt es T H lo (c :: acc))
  | none => match stepA (evOF nt T) H op with | some _ => .fail "foot" | none => .fail "op"
theorem rEntDStep_eq (rec : Rec1) (nt : Nat) (d : Option Nat) (es : List AEnt) (T : Tr) (H : AHeap) (lo : Nat) (acc : List Cls) (op : AOp) : rEntDStep rec nt d es T H lo acc op = match stepA (evO nt T) H op with
          | some (v, H1, lo1) => match footA (evO nt T) H op with
            | some c => rec (.entsD nt es (T.setO d v) H1 (stepLo op lo lo1) (c :: acc))
            | none => .fail "foot"
          | none => .fail "op" := by
  unfold rEntDStep
  simp only [stepK_eq, setOK_eq, evOF_eq]
  cases footA (evO nt T) H op <;> cases stepA (evO nt T) H op <;> rfl
noncomputable def rEntDGo (rec : Rec1) (nt : Nat) (en : AEnt) (es : List AEnt) (T : Tr) (H : AHeap) (lo : Nat) (acc : List Cls) : Out :=
  match en.op with
  | .call f args => rEntDCall rec nt en.dst es T H lo acc f args
  | op => rEntDStep rec nt en.dst es T H lo acc op
noncomputable def rEntDG (rec : Rec1) (nt : Nat) (en : AEnt) (es : List AEnt) (T : Tr) (H : AHeap) (lo : Nat) (acc : List Cls) (t : Nat) (w : Bool) : Out :=
  match yieldOf (evOF nt T (.tmp t)) with
  | some y => bif (y == some w) then rEntDGo rec nt en es T H lo acc else setOK T en.dst (.tuple []) fun T => rec (.entsD nt es T H lo (.skip :: acc))
  | none => .fail "guard"
noncomputable def rEntsD (rec : Rec1) (nt : Nat) (es : List AEnt) (T : Tr) (H : AHeap) (lo : Nat) (acc : List Cls) : Out :=
  match es with
  | [] => .draw T H lo acc.reverse
  | en :: es => match en.guard with
    | none => rEntDGo rec nt en es T H lo acc
    | some (t, w) => rEntDG rec nt en es T H lo acc t w
noncomputable def rCallB (P : Program) (K : Cfg) (rec : Rec1) (f : FuncId) (args : List AVal) (H : AHeap) : Out :=
  match mapO (frzB H 40) args with
          | none => rec (.fn f args H)
          | some args' => match findMemoF f args' K.memo with
            | some v => bif flatV 40 v then .val v H (lenO H) false else rec (.fn f args H)
            | none => match rec (.fn f args' []) with
              | .val v [] _ _ => bif flatV 40 v then .val v H (lenO H) false else rec (.fn f args H)
              | _ => rec (.fn f args H)
noncomputable def rCallC (P : Program) (K : Cfg) (rec : Rec1) (f : FuncId) (args : List AVal) (H : AHeap) : Out :=
  match rec (.fn f args []) with
          | .val v [] _ _ => .val v H (lenO H) true
          | .val _ _ _ _ => rec (.fn f args H)
          | x => x
noncomputable def rCallM (P : Program) (K : Cfg) (rec : Rec1) (f : FuncId) (args : List AVal) (H : AHeap) : Out :=
  bif K.opn.contains f then rec (.fn f args H) else match findMemoF f args K.memo with
      | some v => .val v H (lenO H) true
      | none => bif args.all (below 0 40) then rCallC P K rec f args H else rCallB P K rec f args H
noncomputable def rYield2 (P : Program) (K : Cfg) (rec : Rec1) (m : Nat) (H : AHeap) (lo1 : Nat) (o : Out) : Out := match o with
                | .code e2 _ H2 [] lo2 => match getO H2 m with
                  | some (.loop L2) =>
                    let lo := Nat.min m (Nat.min lo1 lo2)
                    match e2 with
                    | .normal => fN (lenO H) fun m0 => setLK H2 m (.loop { L2 with st := .ready, pending := none }) fun H3 => finF m0 (.bool true) H3 lo
                    | e2 => fN (lenO H) fun m0 => setLK H2 m (.loop { L2 with st := .done, pending := jumpOf e2 }) fun H3 => finF m0 (.bool false) H3 lo
                  | _ => .fail "no loop"
                | .fail w => .fail w
                | _ => .fail "round"
noncomputable def rYield1 (P : Program) (K : Cfg) (rec : Rec1) (m : Nat) (L : ALoop) (cb : ACode) (H : AHeap) (o : Out) : Out := match o with
          | .code .normal T1 H1 [] lo1 => match getO H1 m with
            | some (.loop L1) => match L1.st with
              | .ready => rYield2 P K rec m H lo1 (setLK H1 m (.loop { L1 with st := .busy }) fun H2 => rec (.code L.nt (some m) cb T1 H2 []))
              | _ => .fail "round"
            | _ => .fail "no loop"
          | .fail w => .fail w
          | _ => .fail "round"
noncomputable def rYield (P : Program) (K : Cfg) (rec : Rec1) (m : Nat) (args : List AVal) (H : AHeap) : Out := match getO H m with
      | some (.loop L) => match L.st, compile P L.assign, compile P L.body with
        | .ready, some ca, some cb => bif Nat.beq L.params.size args.length then rYield1 P K rec m L cb H (fT (roundTr L.tr L.params.toList args) fun T => rec (.code L.nt (some m) ca T H []))
          else .fail "params"
        | _, _, _ => .fail "round comp"
      | _ => .fail "no loop"
noncomputable def rCall (P : Program) (K : Cfg) (rec : Rec1) (fv : AVal) (args : List AVal) (H : AHeap) : Out :=
  match fv with
  | .fn (.func f) first cap => rCallM P K rec f (first ++ args ++ cap) H
  | .yld m => rYield P K rec m args H
  | _ => .fail "fv"
noncomputable def fVal (o : Out) : Out := match o with
  | .val v H lo fr => fH H fun H => .val v H lo fr
  | o => o
theorem fVal_eq (o : Out) : fVal o = o := by cases o <;> simp only [fVal, fH_eq]
noncomputable def rFnE (P : Program) (K : Cfg) (f : FuncId) (fn : Func) (H : AHeap) (T1 : Tr) (H1 : AHeap) (D1 : List Nat) (lo : Nat) : Out :=
  bif marks H1 D1 then
              let H2 := killAll D1 H1
              match resAF fn T1 H2 P with
              | some v0 => bif K.keep.contains f then .val v0 H2 lo false else bif K.gc.contains f then fN (lenO H) fun m0 => fVal (compact m0 v0 H2 lo) else fN (lenO H) fun m0 => finF m0 v0 H2 lo
              | none => .fail "results"
            else .fail "marks"
noncomputable def rFn2 (P : Program) (K : Cfg) (f : FuncId) (fn : Func) (H : AHeap) (o : Out) : Out := match o with
        | .code e T1 H1 D1 lo => match e with
          | .exit _ => .fail "exit"
          | _ => rFnE P K f fn H T1 H1 D1 lo
        | .fail w => .fail (w ++ " < " ++ fn.name)
        | _ => .fail "fn"
noncomputable def okFnF (P : Program) (f : FuncId) : Bool :=
  match getO P.funcs.toList f with
  | some fn => fn.body.isSome && fn.name != "runtime.NumGoroutine"
  | none => false
theorem okFnF_eq (P : Program) (f : FuncId) : okFnF P f = okFn P f := by
  unfold okFnF okFn
  rw [getO_eq, Array.getElem?_toList]; rfl
noncomputable def rFn (P : Program) (K : Cfg) (rec : Rec1) (f : FuncId) (args : List AVal) (H : AHeap) : Out := match getO P.funcs.toList f with
    | none => .fail "func"
    | some fn => match okFnF P f, fn.body.bind (compile P), Nat.ble args.length fn.ntmps with
      | true, some c, true => rFn2 P K f fn H (fT (Tr.ofArgs args) fun T => rec (.code fn.ntmps none c T H []))
      | _, _, _ => .fail ("comp " ++ fn.name)
noncomputable def runStep (P : Program) (K : Cfg) (rec : Rec1) (j : Job) : Out := Job.rec (motive := fun _ => Out)
  (fun nt r c T H D => rCode rec nt r c T H D) (fun nt es T H lo => rEnts rec nt es T H lo) (fun nt es T H lo acc => rEntsD rec nt es T H lo acc) (fun fv args H => rCall P K rec fv args H) (fun f args H => rFn P K rec f args H) j
noncomputable def runF (P : Program) (K : Cfg) : Nat → Job → Out := fun n => Nat.rec (motive := fun _ => Job → Out) (fun _ => .fail "fuel") (fun _ rec => runStep P K rec) n

theorem runF_eq (P : Program) (K : Cfg) : ∀ n, runF P K n = run P K n := by
  intro n
  induction n with
  | zero => funext j; simp only [run]; rfl
  | succ n ih =>
    funext j
    show runStep P K (runF P K n) j = _
    rw [ih]
    cases j with
    | code nt r c T H D =>
      cases c with
      | cond c a b => simp only [run, runStep, rCode, rCond, evOF_eq]; rfl
      | range f params asg body => simp only [run, runStep, rCode, rRange, evOF_eq, getO_eq]; rfl
      | _ => simp only [run, runStep, rCode, rReg, rRegD, lenO_eq] <;> rfl
    | ents nt es T H lo =>
      cases es with
      | nil => simp only [run]; rfl
      | cons en es =>
        simp only [run, runStep, rEnts_eq, rEntGo_eq, rEntG, rEntCall, rEntStep, stepK_eq, evOF_eq, fV_eq, fL_eq (fV_eq 1), fH_eq, fN_eq, setOK_eq]
        rfl
    | entsD nt es T H lo acc =>
      cases es with
      | nil => simp only [run]; rfl
      | cons en es =>
        simp only [run, runStep, rEntsD, rEntDGo, rEntDG, rEntDCall, rEntDStep_eq, evOF_eq, fV_eq, fL_eq (fV_eq 1), fH_eq, fN_eq, setOK_eq, lenO_eq]
        rfl
    | call fv args H =>
      cases fv with
      | yld m =>
        simp only [run, runStep, rCall, rYield, rYield1, rYield2, fT_eq, fH_eq, fN_eq, getO_eq, lenO_eq, setLK_eq, finF_eq]
        rfl
      | fn f first cap => cases f <;> simp only [run, runStep, rCall, rCallM, rCallB, rCallC, findMemoF_eq, lenO_eq] <;> rfl
      | _ => simp only [run] <;> rfl
    | fn f args H =>
      simp only [run, runStep, rFn, rFn2, rFnE, fT_eq, fN_eq, lenO_eq, getO_eq, okFnF_eq, Array.getElem?_toList, finF_eq, resAF_eq, fVal_eq]
      rfl

noncomputable def isCallF (P : Program) (K : Cfg) (m : Nat) (f : FuncId) (args : List AVal) (v : AVal) : Bool :=
  args.all (below 0 40) && (match runF P K m (.fn f args []) with
    | .val u [] _ _ => eqvF 40 u v
    | _ => false)
theorem known_ofF {P : Program} {K : Cfg} (hm : P.follows .mixedOrders = true) (hM : MemoOk P K.memo) {m : Nat} {f : FuncId} {args : List AVal} {v : AVal} (h : isCallF P K m f args v = true) : Known P f args v :=
  known_of hm hM (m := m) (by unfold isCallF at h; rw [runF_eq, eqvF_eq] at h; exact h)
end Go.Proofs.YtennhanlcbibaaaGreatDoor.Lb

/- A function's run in two parts: the kernel runs each by itself. -/
namespace Go.Proofs.YtennhanlcbibaaaGreatDoor.Lb
open Go

def restC : Nat → ACode → ACode
  | 0, c => c
  | k + 1, .seq a b => restC k b
  | _ + 1, c => c

noncomputable def headRun (P : Program) (K : Cfg) (m nt : Nat) : Nat → ACode → Tr → AHeap → List Nat → Option (Tr × AHeap × List Nat)
  | 0, c, T, H, D => some (T, H, D)
  | k + 1, .seq a b, T, H, D => match runF P K m (.code nt none a T H D) with
    | .code .normal T1 H1 D1 _ => headRun P K m nt k b T1 H1 D1
    | _ => none
  | _ + 1, _, _, _, _ => none

theorem head_sound {P : Program} {K : Cfg} (hm : P.follows .mixedOrders = true) (hM : MemoOk P K.memo) {m nt : Nat} : ∀ (k : Nat) (c : ACode) (T : Tr) (H : AHeap) (D : List Nat) (c0 : Code) (T1 : Tr) (H1 : AHeap) (D1 : List Nat),
    headRun P K m nt k c T H D = some (T1, H1, D1) → compile P c0 = some c → ∃ c1, compile P c1 = some (restC k c) ∧ ∀ Q, CodeS P nt none c1 T1.get H1 D1 Q → CodeS P nt none c0 T.get H D Q
  | 0, c, T, H, D, c0, T1, H1, D1, h, hc => by
    simp only [headRun, Option.some.injEq, Prod.mk.injEq] at h
    obtain ⟨rfl, rfl, rfl⟩ := h
    exact ⟨c0, hc, fun Q q => q⟩
  | k + 1, c, T, H, D, c0, T1, H1, D1, h, hc => by
    cases c with
    | seq a b =>
      simp only [headRun] at h
      split at h
      · rename_i T2 H2 D2 lo hr
        rw [runF_eq] at hr
        obtain ⟨x, y, rfl, hx, hy⟩ := comp_seq hc
        obtain ⟨k1, _, _⟩ := (good hm hM m).c _ _ _ _ _ _ _ _ _ _ _ hr _ hx
        obtain ⟨c1, hc1, hq⟩ := head_sound hm hM k b T2 H2 D2 y T1 H1 D1 h hy
        refine ⟨c1, hc1, fun Q q => code_seq (code_mono k1 ?_)⟩
        rintro e T' H' D' ⟨rfl, rfl, rfl, rfl⟩
        exact hq Q q
      · cases h
    | _ => simp [headRun] at h

def eqvN : List Nat → List Nat → Bool
  | [], [] => true
  | a :: as, b :: bs => Nat.beq a b && eqvN as bs
  | _, _ => false
theorem eqvN_eq : ∀ (as bs : List Nat), eqvN as bs = true → as = bs
  | [], [], _ => rfl
  | [], b :: bs, h => by cases h
  | a :: as, [], h => by cases h
  | a :: as, b :: bs, h => by
    simp only [eqvN, Bool.and_eq_true] at h
    rw [Nat.eq_of_beq_eq_true h.1, eqvN_eq as bs h.2]

def isAny : AVal → Bool
  | .any => true
  | _ => false

/-- The second tree says no more than the first. -/
def leT : Tr → Tr → Bool
  | _, .l => true
  | .l, .n v a b => isAny v && leT .l a && leT .l b
  | .n u c d, .n v a b => (isAny v || eqv 40 u v) && leT c a && leT d b

theorem leT_leaf : ∀ (T' : Tr), leT .l T' = true → ∀ i, T'.get i = .any
  | .l, _, i => rfl
  | .n v a b, h, i => by
    simp only [leT, Bool.and_eq_true] at h
    cases i with
    | zero =>
      have := h.1.1
      show v = .any
      cases v <;> first | rfl | (cases this)
    | succ i =>
      simp only [Tr.get]
      cases Nat.beq (i % 2) 0
      · exact leT_leaf b h.2 _
      · exact leT_leaf a h.1.2 _

theorem leT_sound : ∀ (T T' : Tr), leT T T' = true → ∀ i, T'.get i = .any ∨ T'.get i = T.get i
  | _, .l, _, i => .inl rfl
  | .l, .n v a b, h, i => .inl (leT_leaf _ h i)
  | .n u c d, .n v a b, h, i => by
    simp only [leT, Bool.and_eq_true, Bool.or_eq_true] at h
    cases i with
    | zero =>
      rcases h.1.1 with h1 | h1
      · left; show v = .any; cases v <;> first | rfl | (cases h1)
      · right; exact (eqv_eq 40 _ _ h1).symm
    | succ i =>
      simp only [Tr.get]
      cases Nat.beq (i % 2) 0
      · exact leT_sound d b h.2 _
      · exact leT_sound c a h.1.2 _

theorem code_less {P : Program} {nt : Nat} {c : Code} {T T' : Tr} {H : AHeap} {D : List Nat} {Q : Ex → (Nat → AVal) → AHeap → List Nat → Prop} (hl : leT T T' = true) (h : CodeS P nt none c T'.get H D Q) : CodeS P nt none c T.get H D Q := by
  intro g a w hi ht hd b k cs hr
  refine h g a w hi ⟨ht.1, fun i hi' => ?_⟩ hd b k cs hr
  rcases leT_sound T T' hl i with e | e
  · rw [e]; exact .any _
  · rw [e]; exact ht.2 i hi'

noncomputable def isHead (P : Program) (K : Cfg) (m nt k : Nat) (c : ACode) (T : Tr) (T1 : Tr) (H1 : AHeap) (D1 : List Nat) : Bool :=
  match headRun P K m nt k c T [] [] with
  | some (T', H', D') => leT T' T1 && eqvH H' H1 && eqvN D' D1
  | none => false

noncomputable def isTail (P : Program) (K : Cfg) (m : Nat) (fn : Func) (c : ACode) (T1 : Tr) (H1 : AHeap) (D1 : List Nat) (v : AVal) : Bool :=
  match runF P K m (.code fn.ntmps none c T1 H1 D1) with
  | .code e T2 H2 D2 _ => (match e with | .exit _ => false | _ => true) && marks H2 D2 && (match resA fn T2 (killAll D2 H2) P with
    | some v0 => (match fin 0 v0 (killAll D2 H2) 0 with | .val u [] _ _ => eqv 40 u v | _ => false)
    | none => false)
  | _ => false

/-- What the compiled body of a function is. -/
def bodyA (P : Program) (f : FuncId) : ACode := match P.funcs[f]? with
  | some fn => (fn.body.bind (compile P)).getD .bad
  | none => .bad

theorem known_split {P : Program} {K : Cfg} (hm : P.follows .mixedOrders = true) (hM : MemoOk P K.memo) {m m' k : Nat} {f : FuncId} {fn : Func} {args : List AVal} {v : AVal} {T1 : Tr} {H1 : AHeap} {D1 : List Nat} (hf : P.funcs[f]? = some fn)
    (hok : okFn P f = true) (hb : (fn.body.bind (compile P)).isSome = true) (hl : Nat.ble args.length fn.ntmps = true) (hcl : args.all (below 0 40) = true)
    (h1 : isHead P K m fn.ntmps k (bodyA P f) (Tr.ofArgs args) T1 H1 D1 = true) (h2 : isTail P K m' fn (restC k (bodyA P f)) T1 H1 D1 v = true) : Known P f args v := by
  obtain ⟨c, hc⟩ := Option.isSome_iff_exists.1 hb
  have hbody : bodyA P f = c := by unfold bodyA; rw [hf]; simp only [hc, Option.getD_some]
  rw [hbody] at h1 h2
  obtain ⟨c0, hc0, hcomp⟩ := Option.bind_eq_some_iff.1 hc
  unfold isHead at h1
  split at h1
  · rename_i T' H' D' hr
    simp only [Bool.and_eq_true] at h1
    obtain ⟨⟨e1, e2⟩, e3⟩ := h1
    have e2 := eqvH_eq _ _ e2
    have e3 := eqvN_eq _ _ e3
    subst e2 e3
    obtain ⟨c1, hc1, hq⟩ := head_sound hm hM k c _ _ _ c0 T' H' D' hr hcomp
    unfold isTail at h2
    split at h2
    · rename_i e T2 H2 D2 lo hr2
      rw [runF_eq] at hr2
      obtain ⟨q1, _, _⟩ := (good hm hM m').c _ _ _ _ _ _ _ _ _ _ _ hr2 _ hc1
      simp only [Bool.and_eq_true] at h2
      obtain ⟨⟨he, hmk⟩, h3⟩ := h2
      split at h3
      · rename_i v0 hres
        split at h3
        · rename_i u lo2 fr hfin
          have hu := eqv_eq _ _ _ h3
          subst hu
          have sh0 : Sh [] (killAll D2 H2) 0 := ⟨Nat.le_refl _, Nat.zero_le _, fun n hn => absurd hn (Nat.not_lt_zero _)⟩
          obtain ⟨hF, _, _⟩ := fin_sound (H := []) sh0 hfin
          have hcode : CodeS P fn.ntmps none c0 (argT args) [] [] (BodyQ P fn.ntmps fn [] u []) := by
            rw [← ofArgs_argT]
            refine hq _ (code_less e1 (code_mono q1 ?_))
            rintro e' Tx Hx Dx ⟨rfl, rfl, rfl, rfl⟩
            cases e' with
            | exit id => cases he
            | normal => exact ⟨v0, resA_sound hres, marks_sound _ hmk, hF⟩
            | ret => exact ⟨v0, resA_sound hres, marks_sound _ hmk, hF⟩
          exact ⟨hok, fn_of_code hf hc0 rfl (Nat.le_of_ble_eq_true hl) hcode, fun i c e => below_sound 40 c (List.all_eq_true.1 hcl c (List.mem_of_getElem? e))⟩
        · cases h3
      · cases h3
    · cases h2
  · cases h1
end Go.Proofs.YtennhanlcbibaaaGreatDoor.Lb

