/- What a run of the program in an abstract memory says of the machine: part 4. -/
import Derived.Test.YtennhanlcbibaaaGreatDoorL3
import Derived.Laws.MakeOwn
/- Operations: structs built and compared; addresses of elements; lengths; least and greatest. -/
namespace Go.Proofs.YtennhanlcbibaaaGreatDoor.Lb
open Go

/-! ### Comparing -/
inductive CK where
  | bool | int | str
  deriving DecidableEq

def eqC : CK → AVal → AVal → Option Bool
  | .int, .int k a, .int l b => if k = l then some (a == b) else none
  | .bool, .bool a, .bool b => some (a == b)
  | .str, .str a, .str b => some (a.toList == b.toList)
  | _, _, _ => none

def eqL : List CK → List AVal → List AVal → Option Bool
  | [], [], [] => some true
  | k :: ks, a :: as, b :: bs => match eqC k a b, eqL ks as bs with
    | some x, some y => some (x && y)
    | _, _ => none
  | _, _, _ => none

theorem eqL_length : ∀ (ks : List CK) (as bs : List AVal) (r : Bool), eqL ks as bs = some r → as.length = ks.length ∧ bs.length = ks.length
  | [], [], [], _, _ => ⟨rfl, rfl⟩
  | k :: ks, a :: as, b :: bs, r, h => by
    simp only [eqL] at h
    split at h
    · rename_i x y hx hy
      obtain ⟨h1, h2⟩ := eqL_length ks as bs y hy
      exact ⟨by simp [h1], by simp [h2]⟩
    · cases h
  | [], _ :: _, _, _, h => by simp [eqL] at h
  | [], [], _ :: _, _, h => by simp [eqL] at h
  | _ :: _, [], _, _, h => by simp [eqL] at h
  | _ :: _, _ :: _, [], _, h => by simp [eqL] at h

theorem eqL_append : ∀ (ks ks' : List CK) (as bs : List AVal) (r : Bool), eqL (ks ++ ks') as bs = some r → ∃ as1 as2 bs1 bs2 x y, as = as1 ++ as2 ∧ bs = bs1 ++ bs2 ∧ eqL ks as1 bs1 = some x ∧ eqL ks' as2 bs2 = some y ∧ r = (x && y)
  | [], ks', as, bs, r, h => ⟨[], as, [], bs, true, r, rfl, rfl, rfl, h, by simp⟩
  | k :: ks, ks', [], bs, r, h => by simp [eqL] at h
  | k :: ks, ks', a :: as, [], r, h => by simp [eqL] at h
  | k :: ks, ks', a :: as, b :: bs, r, h => by
    simp only [List.cons_append, eqL] at h
    split at h
    · rename_i x y hx hy
      obtain ⟨as1, as2, bs1, bs2, x', y', rfl, rfl, h1, h2, rfl⟩ := eqL_append ks ks' as bs y hy
      injection h with h
      exact ⟨a :: as1, as2, b :: bs1, bs2, x && x', y', rfl, rfl, by simp [eqL, hx, h1], h2, by rw [← h, Bool.and_assoc]⟩
    · cases h

/-- The kinds of a type's cells, for types whose values are compared cell by cell. -/
def eqK (P : Program) : Nat → TypeId → Option (List CK)
  | 0, _ => none
  | d + 1, t =>
    match P.underlying t with
    | some .bool => if tyA P t == some (1, false) then some [.bool] else none
    | some (.int _) => if tyA P t == some (1, false) then some [.int] else none
    | some .string => if tyA P t == some (1, false) then some [.str] else none
    | some (.struct fs) =>
      if P.stoodInHeld t then none else
      match fs.toList.foldl (fun (acc : Option (List CK)) f => acc.bind fun ks => if f.name != "_" && f.offset == ks.length then (eqK P d f.type).bind fun k => if (tyA P f.type).map (·.1) == some k.length then some (ks ++ k) else none else none) (some []) with
      | some ks => if tyA P t == some (ks.length, true) then some ks else none
      | none => none
    | some (.array n e) => (eqK P d e).bind fun k => if (tyA P e).map (·.1) == some k.length && tyA P t == some (n * k.length, true) then some (List.replicate n k).flatten else none
    | _ => none

/-- A value of a type, by its cells from off on. -/
def seg (ag : Bool) (arr : Array Value) (off s : Nat) : Value := if ag then .agg (arr.extract off (off + s)) else arr.getD off undef

theorem run_part {P : Program} {t : TypeId} {s : Nat} {ag : Bool} (h : tyA P t = some (s, ag)) (arr : Array Value) (off : Nat) (hl : off + s ≤ arr.size) (h1 : ag = true ∨ s = 1) (w : World) : (part t arr off).run P w = .ok (seg ag arr off s) w := by
  obtain ⟨h2, h3⟩ := run_tyA h w
  cases ag with
  | true => simp [part, h2, h3, seg]
  | false =>
    have hs : s = 1 := by rcases h1 with h | h; cases h; exact h
    have hlt : off < arr.size := by omega
    simp [part, h2, seg, Array.getD, hlt]

def Cells (g : G) (cs : List AVal) (arr : Array Value) (off : Nat) : Prop := off + cs.length ≤ arr.size ∧ ∀ (i : Nat) (c : AVal), cs[i]? = some c → VRel g c (arr.getD (off + i) undef)

theorem Cells.split {g : G} {as bs : List AVal} {arr : Array Value} {off : Nat} (h : Cells g (as ++ bs) arr off) : Cells g as arr off ∧ Cells g bs arr (off + as.length) := by
  obtain ⟨h1, h2⟩ := h
  simp only [List.length_append] at h1
  refine ⟨⟨by omega, fun i c e => h2 i c (by rw [List.getElem?_append_left (lt_of_getElem?_some e)]; exact e)⟩, ⟨by omega, fun i c e => ?_⟩⟩
  have := h2 (as.length + i) c (by rw [List.getElem?_append_right (by omega)]; simpa using e)
  rwa [← Nat.add_assoc] at this

theorem Cells.extract {g : G} {cs : List AVal} {arr : Array Value} {off s : Nat} (h : Cells g cs arr off) (hs : cs.length = s) : Cells g cs (arr.extract off (off + s)) 0 := by
  obtain ⟨h1, h2⟩ := h
  refine ⟨by simp; omega, fun i c e => ?_⟩
  have hi := lt_of_getElem?_some e
  have := h2 i c e
  have h3 : off + i < arr.size := by omega
  have h4 : i < min (off + s) arr.size - off := by omega
  simpa [Array.getD, h3, h4] using this

theorem eq_run {P : Program} {g : G} (w : World) : ∀ (d : Nat) (t : TypeId) (ks : List CK) (cs ds : List AVal) (a1 a2 : Array Value) (o1 o2 : Nat) (r : Bool) (e : Nat), eqK P d t = some ks → Cells g cs a1 o1 → Cells g ds a2 o2 → eqL ks cs ds = some r →
    ∃ ag, tyA P t = some (ks.length, ag) ∧ (ag = true ∨ ks.length = 1) ∧ (Op.equalIn (d + e) t (seg ag a1 o1 ks.length) (seg ag a2 o2 ks.length)).run P w = .ok r w := by
  intro d
  induction d with
  | zero => intro t ks cs ds a1 a2 o1 o2 r e h; simp [eqK] at h
  | succ d ih =>
    intro t ks cs ds a1 a2 o1 o2 r e hok hc1 hc2 hr
    rw [show d + 1 + e = (d + e) + 1 from by omega]
    obtain ⟨hl1, hl2⟩ := eqL_length ks cs ds r hr
    have one : ∀ k, ks = [k] → ∃ c c', eqC k c c' = some r ∧ VRel g c (a1.getD o1 undef) ∧ VRel g c' (a2.getD o2 undef) := by
      intro k hk
      subst hk
      obtain ⟨c, rfl⟩ := List.length_eq_one_iff.1 hl1
      obtain ⟨c', rfl⟩ := List.length_eq_one_iff.1 hl2
      have v1 := hc1.2 0 c rfl
      have v2 := hc2.2 0 c' rfl
      simp only [Nat.add_zero] at v1 v2
      refine ⟨c, c', ?_, v1, v2⟩
      simp only [eqL] at hr
      split at hr
      · rename_i x y h1 h2; injection h2 with h2; subst h2; injection hr with hr; rw [h1, ← hr]; simp
      · cases hr
    unfold eqK at hok
    split at hok
    · rename_i hx
      split at hok
      · rename_i hty
        injection hok with hok
        obtain ⟨c, c', hq, v1, v2⟩ := one _ hok.symm
        subst hok
        refine ⟨false, by simpa using hty, .inr rfl, ?_⟩
        simp only [seg, Bool.false_eq_true, if_false]
        generalize a1.getD o1 undef = u1 at *
        generalize a2.getD o2 undef = u2 at *
        cases v1 <;> simp only [eqC] at hq <;> try (cases hq; done)
        cases v2 <;> simp only at hq <;> try (cases hq; done)
        injection hq with hq; subst hq
        exact run_equalIn_bool' w _ t _ _ hx
      · cases hok
    · rename_i k hx
      split at hok
      · rename_i hty
        injection hok with hok
        obtain ⟨c, c', hq, v1, v2⟩ := one _ hok.symm
        subst hok
        refine ⟨false, by simpa using hty, .inr rfl, ?_⟩
        simp only [seg, Bool.false_eq_true, if_false]
        generalize a1.getD o1 undef = u1 at *
        generalize a2.getD o2 undef = u2 at *
        cases v1 <;> simp only [eqC] at hq <;> try (cases hq; done)
        cases v2 <;> simp only at hq <;> try (cases hq; done)
        split at hq
        · rename_i hkk; subst hkk
          injection hq with hq; subst hq
          exact run_equalIn_int w _ t _ _ _ _ hx
        · cases hq
      · cases hok
    · rename_i hx
      split at hok
      · rename_i hty
        injection hok with hok
        obtain ⟨c, c', hq, v1, v2⟩ := one _ hok.symm
        subst hok
        refine ⟨false, by simpa using hty, .inr rfl, ?_⟩
        simp only [seg, Bool.false_eq_true, if_false]
        generalize a1.getD o1 undef = u1 at *
        generalize a2.getD o2 undef = u2 at *
        cases v1 <;> simp only [eqC] at hq <;> try (cases hq; done)
        cases v2 <;> simp only at hq <;> try (cases hq; done)
        injection hq with hq; subst hq
        exact run_equalIn_string w _ t _ _ hx
      · cases hok
    · rename_i fs hx
      split at hok
      · cases hok
      · rename_i hst
        split at hok
        · rename_i ks' hf
          split at hok
          · rename_i hty
            injection hok with hok
            subst hok
            refine ⟨true, by simpa using hty, .inl rfl, ?_⟩
            have hfo : P.fieldsOf t = fs := by simp [Program.fieldsOf, hx]
            simp only [seg, if_true]
            rw [run_equalIn_struct w _ t _ _ (by rw [hfo]; exact hx) (by simpa using hst), hfo]
            have hc1' := hc1.extract hl1
            have hc2' := hc2.extract hl2
            generalize a1.extract o1 (o1 + ks'.length) = b1 at *
            generalize a2.extract o2 (o2 + ks'.length) = b2 at *
            -- field by field
            have key : ∀ (l : List Field) (ks0 : List CK) (ksn : List CK), l.foldl (fun (acc : Option (List CK)) f => acc.bind fun ks => if f.name != "_" && f.offset == ks.length then (eqK P d f.type).bind fun k => if (tyA P f.type).map (·.1) == some k.length then some (ks ++ k) else none else none) (some ks0) = some ksn →
                ∃ kr, ksn = ks0 ++ kr ∧ ∀ (as bs : List AVal) (r : Bool), eqL kr as bs = some r → Cells g as b1 ks0.length → Cells g bs b2 ks0.length → (Op.eqFields (d + e) b1 b2 l).run P w = .ok r w := by
              intro l
              induction l with
              | nil =>
                intro ks0 ksn h
                simp only [List.foldl_nil] at h
                injection h with h
                refine ⟨[], by simp [h], fun as bs r hr _ _ => ?_⟩
                obtain ⟨h1, h2⟩ := eqL_length _ _ _ _ hr
                obtain rfl := List.eq_nil_of_length_eq_zero h1
                obtain rfl := List.eq_nil_of_length_eq_zero h2
                simp only [eqL] at hr
                injection hr with hr
                subst hr
                simp [Op.eqFields]
              | cons f l ihl =>
                intro ks0 ksn h
                simp only [List.foldl_cons, Option.bind_some] at h
                have hnone : ∀ l', List.foldl (fun (acc : Option (List CK)) (f : Field) => acc.bind fun ks => if f.name != "_" && f.offset == ks.length then (eqK P d f.type).bind fun k => if (tyA P f.type).map (·.1) == some k.length then some (ks ++ k) else none else none) none l' = none := by
                  intro l'; induction l' with
                  | nil => rfl
                  | cons _ _ ih => simpa using ih
                split at h
                · rename_i hn
                  simp only [Bool.and_eq_true, bne_iff_ne, beq_iff_eq] at hn
                  cases hk : eqK P d f.type with
                  | none => rw [hk] at h; simp only [Option.bind_none] at h; rw [hnone] at h; cases h
                  | some k =>
                    rw [hk] at h
                    simp only [Option.bind_some] at h
                    split at h
                    · rename_i hty'
                      obtain ⟨kr, rfl, hkr⟩ := ihl (ks0 ++ k) ksn h
                      refine ⟨k ++ kr, by simp, fun as bs r hr hca hcb => ?_⟩
                      obtain ⟨as1, as2, bs1, bs2, x, y, rfl, rfl, h1, h2, rfl⟩ := eqL_append k kr as bs r hr
                      obtain ⟨la, lb⟩ := eqL_length _ _ _ _ h1
                      obtain ⟨ca1, ca2⟩ := hca.split
                      obtain ⟨cb1, cb2⟩ := hcb.split
                      obtain ⟨ag, ht1, ht2, ht3⟩ := ih f.type k as1 bs1 b1 b2 ks0.length ks0.length x e hk ca1 cb1 h1
                      rw [la] at ca2
                      rw [lb] at cb2
                      have h4 := hkr as2 bs2 y h2 (by simpa using ca2) (by simpa using cb2)
                      have p1 := run_part ht1 b1 f.offset (by rw [hn.2]; have := ca1.1; omega) ht2 w
                      have p2 := run_part ht1 b2 f.offset (by rw [hn.2]; have := cb1.1; omega) ht2 w
                      rw [hn.2] at p1 p2
                      simp only [Op.eqFields, hn.1, ne_eq, not_false_eq_true, if_true, Sem.run_bind, hn.2, p1, p2, Result.andThen_ok, ht3]
                      cases x
                      · simp
                      · simp [h4]
                    · rw [hnone] at h; cases h
                · rw [hnone] at h; cases h
            obtain ⟨kr, hkr, hrun⟩ := key fs.toList [] ks' hf
            simp only [List.nil_append] at hkr
            subst hkr
            exact hrun cs ds r hr hc1' hc2'
          · cases hok
        · cases hok
    · rename_i n el hx
      cases hk : eqK P d el with
      | none => rw [hk] at hok; cases hok
      | some k =>
        rw [hk] at hok
        simp only [Option.bind_some] at hok
        split at hok
        · rename_i hty
          injection hok with hok
          simp only [Bool.and_eq_true, beq_iff_eq] at hty
          have hlen : ks.length = n * k.length := by rw [← hok]; simp
          refine ⟨true, by rw [hlen]; exact hty.2, .inl rfl, ?_⟩
          simp only [seg, if_true]
          have hc1' := hc1.extract hl1
          have hc2' := hc2.extract hl2
          generalize a1.extract o1 (o1 + ks.length) = b1 at *
          generalize a2.extract o2 (o2 + ks.length) = b2 at *
          obtain ⟨x0, hx0, hx1⟩ := Option.map_eq_some_iff.1 hty.1
          obtain ⟨s0, ag0⟩ := x0
          simp only at hx1
          subst hx1
          have hsz := (run_tyA hx0 w).2
          simp only [Op.equalIn, Sem.run_bind, run_underlying hx, Result.andThen_ok, hsz, Std.Legacy.Range.forIn_eq_forIn_range', Std.Legacy.Range.size]
          subst hok
          have key : ∀ (m i : Nat) (as bs : List AVal) (r : Bool), eqL (List.replicate m k).flatten as bs = some r → Cells g as b1 (i * k.length) → Cells g bs b2 (i * k.length) →
              ((forIn (List.range' i m) ((none, ()) : Option Bool × Unit) fun i r => do
                if (!(← Op.equalIn (d + e) el (← part el b1 (i * k.length)) (← part el b2 (i * k.length)))) = true then pure (ForInStep.done (some false, ())) else pure (ForInStep.yield (none, ())) : Sem (Option Bool × Unit))).run P w = .ok (if r then none else some false, ()) w := by
            intro m
            induction m with
            | zero => 
              intro i as bs r hr _ _
              obtain ⟨h1, h2⟩ := eqL_length _ _ _ _ hr
              obtain rfl := List.eq_nil_of_length_eq_zero (by simpa using h1)
              obtain rfl := List.eq_nil_of_length_eq_zero (by simpa using h2)
              simp [eqL] at hr
              subst hr
              simp
            | succ m ihm =>
              intro i as bs r hr hca hcb
              simp only [List.replicate_succ, List.flatten_cons] at hr
              obtain ⟨as1, as2, bs1, bs2, x, y, rfl, rfl, h1, h2, rfl⟩ := eqL_append k _ as bs r hr
              obtain ⟨la, lb⟩ := eqL_length _ _ _ _ h1
              obtain ⟨ca1, ca2⟩ := hca.split
              obtain ⟨cb1, cb2⟩ := hcb.split
              obtain ⟨ag, ht1, ht2, ht3⟩ := ih el k as1 bs1 b1 b2 (i * k.length) (i * k.length) x e hk ca1 cb1 h1
              rw [la] at ca2
              rw [lb] at cb2
              have h4 := ihm (i + 1) as2 bs2 y h2 (by rw [Nat.add_mul, Nat.one_mul]; exact ca2) (by rw [Nat.add_mul, Nat.one_mul]; exact cb2)
              have p1 := run_part ht1 b1 (i * k.length) (by have := ca1.1; omega) ht2 w
              have p2 := run_part ht1 b2 (i * k.length) (by have := cb1.1; omega) ht2 w
              rw [List.range'_succ, List.forIn_cons]
              simp only [Sem.run_bind, p1, p2, Result.andThen_ok, ht3]
              cases x
              · simp
              · simpa using h4
          have := key n 0 cs ds r hr (by simpa using hc1') (by simpa using hc2')
          simp only [Nat.sub_zero, Nat.add_sub_cancel, Nat.div_one]
          rw [this]
          cases r <;> rfl
        · cases hok
    · cases hok
end Go.Proofs.YtennhanlcbibaaaGreatDoor.Lb

/- The program's operations with the facts about types worked in; what each does to abstract values. -/
namespace Go.Proofs.YtennhanlcbibaaaGreatDoor.Lb
open Go

/-! ### Operations -/
inductive AOp where
  | mv (x : Operand)
  | pick (c a b : Operand)
  | alloc (z : AVal)
  | box (x : Operand)
  | build (z : List AVal) (parts : List (Nat × Nat × Operand))
  | bslice (sz : Nat) (z : List AVal) (len : Nat) (parts : List (Nat × Operand))
  | load (s : Nat) (ag : Bool) (a : Operand)
  | store (s : Nat) (a x : Operand)
  | nilck (x : Operand)
  | bin (b : BinOp) (x y : Operand)
  | cat (x y : Operand)
  | div (b : BinOp) (x y : Operand)
  | shift (b : BinOp) (x y : Operand)
  | eqk (neg : Bool) (ks : List CK) (x y : Operand)
  | eqb (neg : Bool) (x y : Operand)
  | isS (neg : Bool) (x : Operand)
  | isI (neg : Bool) (x : Operand)
  | un (u : UnOp) (x : Operand)
  | conv (k : IntKind) (x : Operand)
  | s2s (x : Operand)
  | s2b (x : Operand)
  | b2s (x : Operand)
  | mkI (t : TypeId) (x : Operand)
  | mkF (fn : Fn) (first cap : List Operand)
  | mkM
  | mkS (sz : Nat) (z : List AVal) (bytes : Nat) (l c : Operand)
  | slS (sz : Nat) (x : Operand) (l h m : Option Operand)
  | slA (n sz : Nat) (x : Operand) (l h m : Option Operand)
  | slT (x : Operand) (l h : Option Operand)
  | fa (off : Nat) (x : Operand)
  | fld (off s : Nat) (ag : Bool) (x : Operand)
  | iaS (sz : Nat) (x i : Operand)
  | iaA (n sz : Nat) (x i : Operand)
  | ixA (n s : Nat) (ag : Bool) (x i : Operand)
  | ixT (x i : Operand)
  | look (ks : List CK) (z : AVal) (ok : Bool) (m k : Operand)
  | mup (ks : List CK) (m k v : Operand)
  | ext (x : Operand) (i : Nat)
  | call (f : Operand) (args : List Operand)
  | app (sz : Nat) (bytes : Nat) (s x : Operand)
  | lenS (x : Operand)
  | lenT (x : Operand)
  | lenA (n : Nat)
  | lenM (x : Operand)
  | mn (xs : List Operand)
  | mx (xs : List Operand)
  | clr (sz : Nat) (z : List AVal) (x : Operand)
  | bad
  deriving Inhabited

/-- The parts of a struct, with where they lie. -/
def partsA (ps : List (Nat × Nat)) : List (Nat × Operand) → Option (List (Nat × Nat × Operand))
  | [] => some []
  | (i, x) :: rest => match ps[i]?, partsA ps rest with
    | some (off, s), some r => some ((off, s, x) :: r)
    | _, _ => none

def fldsA (P : Program) (t : TypeId) : Option (List (Nat × Nat)) :=
  match P.underlying t with
  | some (.struct fs) => fs.toList.mapM fun f => (tyA P f.type).map fun x => (f.offset, x.1)
  | _ => none

/-- An element type's zero cells, where it has cells. -/
def zeroCellsA (P : Program) (e : TypeId) : Option (List AVal) := (zeroA P e).map (·.cells)

/-- A struct type whose fields are numbers, truth values and strings. -/
def flatKey (P : Program) (t : TypeId) (n : Nat) : Bool :=
  match P.underlying t with
  | some (.struct fs) => fs.toList.all fun f => (match P.underlying f.type with | some .bool | some (.int _) | some .string => true | _ => false) && tyA P f.type == some (1, false) && Nat.blt f.offset n
  | _ => false

/-- Whether a comparison asks for difference. -/
def negOf : BinOp → Bool
  | .neq => true
  | _ => false

def cmpOp (P : Program) (b : BinOp) (t : TypeId) (x y : Operand) : Option AOp :=
  match P.underlying t, y with
  | some (.slice _), .const (.slice none 0 0) => some (.isS (negOf b) x)
  | some (.interface _), .const .nilIface => some (.isI (negOf b) x)
  | some (.int _), _ | some .string, _ => some (.bin b x y)
  | some .bool, _ => some (.eqb (negOf b) x y)
  | some _, _ => (eqK P 8 t).bind fun ks => if tyA P t = some (ks.length, true) ∧ P.eqGuardType P.depth t = false then some (.eqk (negOf b) ks x y) else none
  | none, _ => none

def compOp (P : Program) (o : Oper) : Option AOp :=
  match o.op with
  | .move x | .assign x => some (.mv x)
  | .pick c a b => some (.pick c a b)
  | .alloc e => (zeroA P e).map .alloc
  | .box _ x => some (.box x)
  | .build t parts => match zeroA P t, P.underlying t with
    | some z, some (.struct _) => (fldsA P t).bind fun ps => (partsA ps parts.toList).map fun q => .build z.cells q
    | some z, some (.array _ _) => (arA P t).map fun (_, s, _) => .build z.cells (parts.toList.map fun (i, x) => (i * s, s, x))
    | _, _ => none
  | .buildSlice t len parts => (elA P t).bind fun (e, s, _, _) => (zeroCellsA P e).bind fun z => if z.length = s ∧ s ≠ 0 ∧ len * s ≤ 2 ^ 24 then some (.bslice s z len parts.toList) else none
  | .load t a => (tyA P t).bind fun (s, ag) => if ag || s == 1 then some (.load s ag a) else none
  | .store t a x => (tyA P t).map fun (s, _) => .store s a x
  | .nilCheck x => some (.nilck x)
  | .binOp b t x y yt =>
    match b with
    | .eql | .neq => cmpOp P b t x y
    | .add => match P.underlying t with
      | some .string => some (.cat x y)
      | _ => some (.bin b x y)
    | .quo | .rem => some (.div b x y)
    | .shl | .shr => some (.shift b x y)
    | _ => some (.bin b x y)
  | .unOp u _ x => some (.un u x)
  | .convert s d x => match P.underlying s, P.underlying d with
    | some (.int _), some (.int k) => some (.conv k x)
    | some .string, some .string => some (.s2s x)
    | some .string, some (.slice e) => match P.underlying e with
      | some (.int .u8) => if tyA P e = some (1, false) then some (.s2b x) else none
      | _ => none
    | some (.slice e), some .string => match P.underlying e with
      | some (.int .u8) => some (.b2s x)
      | _ => none
    | _, _ => none
  | .makeInterface t x => match P.underlying t with
    | some (.interface _) => none
    | some _ => some (.mkI t x)
    | none => none
  | .makeFunc fn first cap => some (.mkF fn first.toList cap.toList)
  | .makeMap _ none => some .mkM
  | .makeSlice t l c => (elA P t).bind fun (e, s, _, b) => (zeroCellsA P e).bind fun z => if z.length = s ∧ s ≠ 0 then some (.mkS s z b l c) else none
  | .slice t x l h m => match P.underlying t with
    | some .string => match m with
      | none => some (.slT x l h)
      | some _ => none
    | some (.slice _) => (elA P t).map fun (_, s, _, _) => .slS s x l h m
    | some (.array _ _) => (arA P t).map fun (n, s, _) => .slA n s x l h m
    | _ => none
  | .fieldAddr t x f => (fldA P t f).bind fun (off, s, _) => if s ≠ 0 then some (.fa off x) else none
  | .field t x f => (fldA P t f).bind fun (off, s, ag) => if ag || s == 1 then some (.fld off s ag x) else none
  | .indexAddr t x i => match P.underlying t with
    | some (.slice _) => (elA P t).map fun (_, s, _, _) => .iaS s x i
    | some (.array _ _) => (arA P t).map fun (n, s, _) => .iaA n s x i
    | _ => none
  | .index t x i => match P.underlying t with
    | some .string => some (.ixT x i)
    | some (.array _ _) => (arA P t).bind fun (n, s, ag) => if ag || s == 1 then some (.ixA n s ag x i) else none
    | _ => none
  | .lookup t m k ok => match P.underlying t with
    | some (.map kt et) => (eqK P 8 kt).bind fun ks => if tyA P kt = some (ks.length, true) ∧ flatKey P kt ks.length = true then (zeroA P et).map fun z => .look ks z ok m k else none
    | _ => none
  | .mapUpdate t m k v => match P.underlying t with
    | some (.map kt et) => (eqK P 8 kt).bind fun ks => if tyA P kt = some (ks.length, true) ∧ flatKey P kt ks.length = true ∧ ks.all (· != .str) = true then some (.mup ks m k v) else none
    | _ => none
  | .extract x i => some (.ext x i)
  | .call c => match c.callee with
    | .value f => some (.call f c.args.toList)
    | .invoke _ _ => none
    | .builtin b => match b, c.args.toList with
      | .append, [s, x] => match c.argTypes[0]?, c.argTypes[1]? with
        | some t, some t2 => match P.underlying t2 with
          | some (.slice _) => (elA P t).bind fun (e, s0, _, b) => (zeroCellsA P e).bind fun z => if z.length = s0 ∧ s0 ≠ 0 then some (.app s0 b s x) else none
          | _ => none
        | _, _ => none
      | .len, [x] => match c.argTypes[0]? with
        | some t => match P.underlying t with
          | some .string => some (.lenT x)
          | some (.slice _) => some (.lenS x)
          | some (.array n _) => some (.lenA n)
          | some (.map _ _) => some (.lenM x)
          | _ => none
        | none => none
      | .min, xs => some (.mn xs)
      | .max, xs => some (.mx xs)
      | .clear, [x] => match c.argTypes[0]? with
        | some t => (elA P t).bind fun (e, s, _, _) => (zeroCellsA P e).bind fun z => if z.length = s ∧ s ≠ 0 then some (.clr s z x) else none
        | none => none
      | _, _ => none
  | _ => none

/-! ### What an operation comes to -/
def cellsAt : List AVal → Nat → List AVal → List AVal
  | cs, off, vs => cs.take off ++ vs ++ cs.drop (off + vs.length)

def fillP (e : Operand → AVal) : List AVal → List (Nat × Nat × Operand) → Option (List AVal)
  | cs, [] => some cs
  | cs, (off, s, x) :: rest =>
    let v := e x
    bif Nat.beq v.cells.length s && Nat.ble (off + s) cs.length && v.boxable then fillP e (spliceL cs off v.cells) rest else none

def fillR (e : Operand → AVal) (s : Nat) : List AVal → List (Nat × Operand) → Option (List AVal)
  | xs, [] => some xs
  | xs, (i, x) :: rest =>
    let v := e x
    bif Nat.beq v.cells.length s && Nat.blt i xs.length && v.boxable then fillR e s (xs.set i v) rest else none

/-- The elements of a row of whole numbers, as bytes. -/
def bytesOf : List AVal → Option (List UInt8)
  | [] => some []
  | x :: xs => match x.cells, bytesOf xs with
    | [.int .u8 n], some r => some (UInt8.ofNat n.toNat :: r)
    | _, _ => none

/-- A list cut into pieces. -/
def chunks (sz : Nat) : Nat → List AVal → List AVal
  | 0, _ => []
  | n + 1, cs => .agg (cs.take sz) :: chunks sz n (cs.drop sz)

/-- The elements that a slice shows. -/
def elems (H : AHeap) : AVal → Option (List AVal)
  | .imm _ xs _ => some xs
  | .nilS | .empS => some []
  | .row n k sz off len => match H[n]? with
    | some (.row sz' k' xs) => bif Nat.beq sz sz' && Nat.beq k k' && Nat.ble (off + len) xs.length then some ((xs.drop off).take len) else none
    | _ => none
  | .brow n sz off len => match H[n]? with
    | some (.cells x) => bif Nat.ble ((off + len) * sz) x.cells.length then some (chunks sz len (x.cells.drop (off * sz))) else none
    | _ => none
  | _ => none

def lenOf : AVal → Option Nat
  | .imm _ xs _ => some xs.length
  | .nilS | .empS => some 0
  | .row _ _ _ _ len => some len
  | .brow _ _ _ len => some len
  | _ => none

def natOf (d : Nat) (e : Operand → AVal) : Option Operand → Option Nat
  | none => some d
  | some x => match e x with
    | .int _ (.ofNat n) => some n
    | _ => none

def minL : List AVal → Option AVal
  | .int k a :: rest => rest.foldl (fun acc x => match acc, x with | some (.int k a), .int _ b => some (.int k (if b < a then b else a)) | _, _ => none) (some (.int k a))
  | _ => none

def maxL : List AVal → Option AVal
  | .int k a :: rest => rest.foldl (fun acc x => match acc, x with | some (.int k a), .int _ b => some (.int k (if b > a then b else a)) | _, _ => none) (some (.int k a))
  | _ => none

def findA (ks : List CK) (k : AVal) : List (AVal × AVal) → Nat → Option (Option (Nat × AVal))
  | [], _ => some none
  | (k', v) :: es, i => match (match k' with | .agg ds => eqL ks k.cells ds | _ => none) with
    | some true => some (some (i, v))
    | some false => findA ks k es (i + 1)
    | none => none

def goIntA (n : Nat) : AVal := .int .i64 n

/-- Operations that ask nothing of memory. -/
def stepN (e : Operand → AVal) : AOp → Option AVal
  | .mv x => some (e x)
  | .pick c a b => match e c with | .bool t => some (bif t then e a else e b) | _ => none
  | .build z parts => (fillP e z parts).map .agg
  | .nilck x => let v := e x; bif v.there then some v else none
  | .bin b x y => binA b (e x) (e y)
  | .cat x y => match e x, e y with
    | .str s, .str t => bif Nat.ble (s.size + t.size) 9223372036854775807 then some (.str (s ++ t)) else none
    | _, _ => none
  | .div b x y => match b, e x, e y with
    | .quo, .int k m, .int k' n => if n ≠ 0 ∧ k = k' then some (.int k (k.wrap (m.tdiv n))) else none
    | .rem, .int k m, .int k' n => if n ≠ 0 ∧ k = k' then some (.int k (m.tmod n)) else none
    | _, _, _ => none
  | .shift b x y => match b, e x, e y with
    | .shl, .int k m, .int _ (.ofNat n) => some (.int k (k.wrap (m * 2 ^ (min n k.bits))))
    | .shr, .int k m, .int _ (.ofNat n) => some (.int k (m.fdiv (2 ^ (min n k.bits))))
    | _, _, _ => none
  | .eqk neg ks x y => match e x, e y with
    | .agg cs, .agg ds => (eqL ks cs ds).map fun r => .bool (neg != r)
    | _, _ => none
  | .eqb neg x y => match e x, e y with
    | .bool p, .bool q => some (.bool (neg != (p == q)))
    | _, _ => none
  | .isS neg x => match e x with
    | .nilS => some (.bool (neg != true))
    | .empS => some (.bool (neg != false))
    | .imm _ (_ :: _) _ => some (.bool (neg != false))
    | .row _ _ _ _ (_ + 1) => some (.bool (neg != false))
    | .brow _ _ _ _ => some (.bool (neg != false))
    | _ => none
  | .isI neg x => match e x with
    | .nilIface => some (.bool (neg != true))
    | .iface _ _ => some (.bool (neg != false))
    | _ => none
  | .un u x => unA u (e x)
  | .conv k x => match e x with | .int _ n => some (.int k (k.wrap n)) | _ => none
  | .s2s x => match e x with | .str s => some (.str s) | _ => none
  | .mkI t x => some (.iface t (e x))
  | .mkF fn first cap => some (.fn fn (first.map e) (cap.map e))
  | .slS sz x l hO m => match e x with
    | .imm sz' xs full => match natOf 0 e l, natOf xs.length e hO with
      | some l, some h => match m with
        | none => bif (Nat.beq sz sz' || xs.isEmpty) && Nat.ble l h && Nat.ble h xs.length then some (.imm sz' ((xs.drop l).take (h - l)) (full && Nat.beq h xs.length)) else none
        | some _ => match natOf 0 e m with
          | some m => bif hO.isSome && (Nat.beq sz sz' || xs.isEmpty) && Nat.ble l h && Nat.ble h m && Nat.ble m xs.length then some (.imm sz' ((xs.drop l).take (h - l)) (Nat.beq h m)) else none
          | none => none
      | _, _ => none
    | .row n k sz' off len => match natOf 0 e l, natOf len e hO with
      | some l, some h => match m with
        | none => bif Nat.ble l h && Nat.ble h len && Nat.beq sz sz' then some (.row n k sz' (off + l) (h - l)) else none
        | some _ => none
      | _, _ => none
    | .brow n sz' off len => match natOf 0 e l, natOf len e hO, m with
      | some l, some h, none => bif Nat.ble l h && Nat.ble h len && Nat.beq sz sz' then some (.brow n sz' (off + l) (h - l)) else none
      | _, _, _ => none
    | .nilS => match natOf 0 e l, natOf 0 e hO, m with
      | some 0, some 0, none => some .nilS
      | _, _, _ => none
    | _ => none
  | .slA n sz x l h m => match e x, natOf 0 e l, natOf n e h, m with
    | .ptr b 0 0, some l, some h, none => bif Nat.ble l h && Nat.ble h n && Nat.ble n maxLen then some (.brow b sz l (h - l)) else none
    | _, _, _, _ => none
  | .slT x l h => match e x with
    | .str s => match natOf 0 e l, natOf s.size e h with
      | some l, some h => bif Nat.ble l h && Nat.ble h s.size then some (.str (s.extract l h)) else none
      | _, _ => none
    | _ => none
  | .fa off x => ptrA (e x) off
  | .fld off s ag x => match e x with
    | .agg cs => bif Nat.ble (off + s) cs.length then some (getL cs off s ag) else none
    | _ => none
  | .iaS sz x i => match e x, e i with
    | .imm sz' xs _, .int _ (.ofNat i) => bif Nat.beq sz sz' then (xs[i]?).map fun x => .iptr x 0 else none
    | .row n k sz' off len, .int _ (.ofNat i) => bif Nat.blt i len && Nat.beq sz sz' then some (.rptr n k sz' (off + i) 0) else none
    | .brow n sz' off len, .int _ (.ofNat i) => bif Nat.blt i len && Nat.beq sz sz' then some (.ptr n 0 ((off + i) * sz')) else none
    | _, _ => none
  | .iaA n sz x i => match e i with
    | .int _ (.ofNat i) => bif Nat.blt i n then ptrA (e x) (i * sz) else none
    | _ => none
  | .ixA n s ag x i => match e x, e i with
    | .agg cs, .int _ (.ofNat i) => bif Nat.blt i n && Nat.ble (i * s + s) cs.length then some (getL cs (i * s) s ag) else none
    | _, _ => none
  | .ixT x i => match e x, e i with
    | .str s, .int _ (.ofNat i) => (s.data.toList[i]?).map fun b => .int .u8 b.toNat
    | _, _ => none
  | .ext x i => match e x with
    | .tuple vs => vs[i]?
    | _ => none
  | .lenS x => (lenOf (e x)).map goIntA
  | .lenT x => match e x with | .str s => some (goIntA s.size) | _ => none
  | .lenA n => some (goIntA n)
  | .mn xs => minL (xs.map e)
  | .mx xs => maxL (xs.map e)
  | _ => none

/-- Operations that read memory. -/
def stepR (e : Operand → AVal) (H : AHeap) : AOp → Option AVal
  | .load s ag a => match e a with
    | .ptr n 0 off => match H[n]? with
      | some (.cells x) => bif Nat.ble (off + s) x.cells.length then some (getA x off s ag) else none
      | _ => none
    | .iptr x off => bif Nat.ble (off + s) x.cells.length then some (getA x off s ag) else none
    | .rptr n k sz j off => match H[n]? with
      | some (.row sz' k' xs) => bif Nat.beq sz sz' && Nat.beq k k' then match xs[j]? with
          | some x => bif Nat.ble (off + s) x.cells.length then some (getA x off s ag) else none
          | none => none
        else none
      | _ => none
    | _ => none
  | .s2b x => match e x with
    | .str s => bif Nat.ble s.size maxLen then some (.imm 1 (s.data.toList.map fun b => .int .u8 b.toNat) false) else none
    | _ => none
  | .b2s x => match elems H (e x) with
    | some xs => (bytesOf xs).map fun l => .str ⟨l.toArray⟩
    | none => none
  | .look ks z ok m k => match e m with
    | .map n => match H[n]? with
      | some (.map es) => match e k with
        | .agg cs => bif Nat.beq cs.length ks.length then match findA ks (.agg cs) es 0 with
            | some (some (_, v)) => some (bif ok then .tuple [v, .bool true] else v)
            | some none => some (bif ok then .tuple [z, .bool false] else z)
            | none => none
          else none
        | _ => none
      | _ => none
    | _ => none
  | .lenM x => match e x with
    | .map n => match H[n]? with
      | some (.map es) => some (goIntA es.length)
      | _ => none
    | .nilMap => some (goIntA 0)
    | _ => none
  | _ => none

/-- Operations that lay one object. -/
def stepL (e : Operand → AVal) (n : Nat) : AOp → Option (AVal × AObj)
  | .alloc z => some (.ptr n 0 0, .cells z)
  | .box x => let v := e x; bif v.boxable then some (.ptr n 0 0, .cells v) else none
  | .bslice sz z len parts => (fillR e sz (List.replicate len (.agg z)) parts).map fun xs => (.row n 0 sz 0 len, .row sz 0 xs)
  | .mkM => some (.map n, .map [])
  | .mkS sz z bytes l c => match e l, e c with
    | .int _ (.ofNat l), .int _ (.ofNat c) => bif Nat.ble l c && Nat.ble (bytes * c) 281474976710656 && Nat.ble c 281474976710656 then some (.row n 0 sz 0 l, .row sz 0 (List.replicate c (.agg z))) else none
    | _, _ => none
  | _ => none

/-- Operations that write. -/
def stepW (e : Operand → AVal) (H : AHeap) : AOp → Option (AVal × AHeap × Nat)
  | .store s a x =>
    let v := e x
    bif v.boxable && Nat.beq v.cells.length s then match e a with
      | .ptr n 0 off => match H[n]? with
        | some (.cells y) => bif Nat.ble (off + s) y.cells.length then some (.any, H.set n (.cells (setA y off v)), n) else none
        | _ => none
      | .rptr n k sz j off => match H[n]? with
        | some (.row sz' k' xs) => bif Nat.beq sz sz' && Nat.beq k k' then match xs[j]? with
            | some y => bif Nat.ble (off + s) y.cells.length then some (.any, H.set n (.row sz k (xs.set j (setA y off v))), n) else none
            | none => none
          else none
        | _ => none
      | _ => none
    else none
  | .mup ks m k v => match e m with
    | .map n => match H[n]? with
      | some (.map es) => match e k with
        | .agg cs => bif Nat.beq cs.length ks.length then match findA ks (.agg cs) es 0 with
            | some (some (i, _)) => some (.any, H.set n (.map (es.set i (.agg cs, e v))), n)
            | some none => some (.any, H.set n (.map (es ++ [(.agg cs, e v)])), n)
            | none => none
          else none
        | _ => none
      | _ => none
    | _ => none
  | .clr sz z x => match e x with
    | .imm _ [] _ | .nilS | .empS => some (.tuple [], H, H.length)
    | .row n k sz' off len => bif Nat.beq len 0 then some (.tuple [], H, H.length) else match H[n]? with
      | some (.row sz2 k2 xs) => bif Nat.beq sz sz' && Nat.beq sz sz2 && Nat.beq k k2 && Nat.ble (off + len) xs.length then some (.tuple [], H.set n (.row sz k (spliceL xs off (List.replicate len (.agg z)))), n) else none
      | _ => none
    | _ => none
  | .app sz bytes s x => match elems H (e x) with
    | none => none
    | some ys =>
      bif ys.isEmpty then (lenOf (e s)).map fun _ => (e s, H, H.length)
      else bif ys.all (fun y => Nat.beq y.cells.length sz) then
        let fresh (xs : List AVal) : Option (AVal × AHeap × Nat) := bif Nat.ble ((xs.length + ys.length) * bytes) 140737488355328 && Nat.ble (xs.length + ys.length) 140737488355328 && xs.all (fun y => Nat.beq y.cells.length sz) then some (.row H.length 0 sz 0 (xs.length + ys.length), H ++ [.row sz 0 (xs ++ ys)], H.length) else none
        match e s with
        | .nilS => fresh []
        | .imm _ xs true => fresh xs
        | .row n k sz' off len => match H[n]? with
          | some (.row sz2 k2 xs) => bif Nat.beq sz sz' && Nat.beq sz sz2 && Nat.beq k k2 && Nat.beq off 0 && Nat.ble len xs.length && Nat.ble ((len + ys.length) * bytes) 140737488355328 && Nat.ble (len + ys.length) 140737488355328 then
              some (.row n (k + 1) sz 0 (len + ys.length), H.set n (.row sz (k + 1) (xs.take len ++ ys)), n)
            else none
          | _ => none
        | _ => none
      else none
  | _ => none

/-- What an operation asks of memory. -/
inductive Kd where
  | n | r | a | w

def AOp.kd : AOp → Kd
  | .load .. | .b2s _ | .look .. | .lenM _ | .s2b _ => .r
  | .alloc _ | .box _ | .bslice .. | .mkM | .mkS .. => .a
  | .store .. | .mup .. | .app .. | .call .. | .clr .. => .w
  | _ => .n

/-- The value, the heap, and the least name of an old object that is written. -/
def stepA (e : Operand → AVal) (H : AHeap) (o : AOp) : Option (AVal × AHeap × Nat) :=
  match o.kd with
  | .n => (stepN e o).map fun v => (v, H, H.length)
  | .r => (stepR e H o).map fun v => (v, H, H.length)
  | .a => (stepL e H.length o).map fun (v, ob) => (v, H ++ [ob], H.length)
  | _ => stepW e H o
end Go.Proofs.YtennhanlcbibaaaGreatDoor.Lb

/- The program's code with its operations worked out; what it does to abstract values. -/
namespace Go.Proofs.YtennhanlcbibaaaGreatDoor.Lb
open Go

structure AEnt where
  dst : Option Nat
  op : AOp
  guard : Option (Nat × Bool)
  deriving Inhabited

inductive ACode where
  | skip
  | exit (id : Nat)
  | ret
  | seq (a b : ACode)
  | cond (c : Operand) (a b : ACode)
  | block (id : Nat) (a : ACode)
  | scope (a : ACode)
  | loop (a : ACode)
  | reg (es : List AEnt)
  | regD (ps : List (Nat × Nat)) (es : List AEnt)
  | range (f : Operand) (params : Array Tmp) (assign body : Code)
  | bad
  deriving Inhabited

def compEnt (P : Program) (ops : Array Oper) (o : Oper) : Option AEnt :=
  let a := (compOp P o).getD .bad
  match o.guard with
    | none => some ⟨o.dst, a, none⟩
    | some (j, w) => match (ops[j]?).bind (·.dst) with
      | some t => some ⟨o.dst, a, some (t, w)⟩
      | none => none

def compEnts (P : Program) (ops : Array Oper) : List Oper → Option (List AEnt)
  | [] => some []
  | o :: os => match compEnt P ops o, compEnts P ops os with
    | some a, some as => some (a :: as)
    | _, _ => none

/-- The pairs of operations that no edge orders. -/
def unord (ops : Array Oper) (M : List Nat) : List (Nat × Nat) :=
  (List.range ops.size).flatMap fun i => (List.range i).filterMap fun j => bif orB M i j then none else some (j, i)

/-- The part of the check that needs no names of objects. -/
def regS (ops : Array Oper) (M : List Nat) : Bool :=
  maskOk ops M && (unord ops M).all fun (j, i) => match ops[j]?, ops[i]? with
    | some x, some y => !clash ops x y
    | _, _ => true

/-- The part of the check that is made where the names are known. -/
def regC (ps : List (Nat × Nat)) (cs : List Cls) : Bool := ps.all fun (j, i) => !hot (cs.getD j .skip) (cs.getD i .skip)

/-- Whether an operation may write, or lay an object. -/
def AOp.hotK (o : AOp) : Bool := match o.kd with
  | .a | .w => true
  | _ => false

def mayHot (es : List AEnt) (j i : Nat) : Bool := (match es[j]? with | some e => e.op.hotK | none => true) || (match es[i]? with | some e => e.op.hotK | none => true)

def compile (P : Program) : Code → Option ACode
  | .skip => some .skip
  | .label _ => some .skip
  | .exit id => some (.exit id)
  | .ret => some .ret
  | .seq a b => match compile P a, compile P b with
    | some x, some y => some (.seq x y)
    | _, _ => none
  | .cond c a b => match compile P a, compile P b with
    | some x, some y => some (.cond c x y)
    | _, _ => none
  | .block id a => (compile P a).map (.block id)
  | .scope a => (compile P a).map .scope
  | .loop a => (compile P a).map .loop
  | .region _ ops draw => match compEnts P ops ops.toList with
    | some es => bif !draw then some (.reg es) else bif regS ops (masks ops) then some (.regD ((unord ops (masks ops)).filter fun p => mayHot es p.1 p.2) es) else none
    | none => none
  | .rangeFunc f params assign body => some (.range f params assign body)
  | _ => some .bad

/-! ### Running it -/
structure St where
  T : Tr
  H : AHeap
  D : List Nat

/-- A value without names of objects. -/
def below (m : Nat) : Nat → AVal → Bool
  | 0, _ => false
  | f + 1, v => match v with
    | .ptr n _ _ | .rptr n _ _ _ _ | .row n _ _ _ _ | .map n | .yld n | .brow n _ _ _ => Nat.blt n m
    | .iptr x _ => x.cells.all (below m f)
    | .imm _ xs _ => xs.all fun x => x.cells.all (below m f)
    | .fn _ a b => a.all (below m f) && b.all (below m f)
    | .iface _ x => below m f x
    | .agg cs | .tuple cs => cs.all (below m f)
    | _ => true

def belowT (m f : Nat) : Tr → Bool
  | .l => true
  | .n v a b => below m f v && belowT m f a && belowT m f b

def belowO (m f : Nat) : AObj → Bool
  | .cells x => x.cells.all (below m f)
  | .row _ _ xs => xs.all fun x => x.cells.all (below m f)
  | .map es => es.all fun (k, v) => below m f k && below m f v
  | .loop l => belowT m f l.tr
  | .defd | .dead => true

def mapO {α β : Type} (f : α → Option β) : List α → Option (List β)
  | [] => some []
  | a :: as => match f a, mapO f as with
    | some b, some bs => some (b :: bs)
    | _, _ => none

/-- A value as it is when the objects from m on are forgotten. -/
def frz (m : Nat) (H : AHeap) : Nat → AVal → Option AVal
  | 0, _ => none
  | f + 1, v => match v with
    | .row n k sz off len => bif Nat.blt n m then some v else match H[n]? with
      | some (.row sz' k' xs) => bif Nat.beq sz sz' && Nat.beq k k' && Nat.ble (off + len) xs.length then
          (mapO (fun x => match x with
            | .agg cs => match mapO (frz m H f) cs with
              | some ds => bif ds.all (·.scalar) then some (.agg ds) else none
              | none => none
            | x => match frz m H f x with
              | some z => bif z.scalar && x.scalar then some z else none
              | none => none) ((xs.drop off).take len)).map fun zs => .imm sz zs false
        else none
      | _ => none
    | .agg cs => match mapO (frz m H f) cs with
      | some ds => bif ds.all (·.scalar) then some (.agg ds) else none
      | none => none
    | .tuple cs => (mapO (frz m H f) cs).map .tuple
    | .iface t x => (frz m H f x).map (.iface t)
    | v => bif below m f v then some v else none

/-! ### What is not reached any more is forgotten -/
def idxN (n : Nat) : List Nat → Option Nat
  | [] => none
  | a :: l => bif Nat.beq a n then some 0 else (idxN n l).map (· + 1)

def renN (m : Nat) (R : List Nat) (n : Nat) : Option Nat := bif Nat.blt n m then some n else (idxN n R).map (m + ·)

def asc : Nat → List Nat → Bool
  | _, [] => true
  | lo, a :: l => Nat.ble lo a && asc (a + 1) l

def renV (m : Nat) (R : List Nat) : Nat → AVal → Option AVal
  | 0, _ => none
  | f + 1, v => match v with
    | .ptr n g o => (renN m R n).map fun n => .ptr n g o
    | .rptr n g sz j o => (renN m R n).map fun n => .rptr n g sz j o
    | .row n g sz o l => (renN m R n).map fun n => .row n g sz o l
    | .map n => (renN m R n).map fun n => .map n
    | .brow n sz o l => (renN m R n).map fun n => .brow n sz o l
    | .fn fn a b => match mapO (renV m R f) a, mapO (renV m R f) b with
      | some a', some b' => some (.fn fn a' b')
      | _, _ => none
    | .iface t x => (renV m R f x).map (.iface t)
    | .agg cs => match mapO (renV m R f) cs with
      | some ds => bif ds.all (·.scalar) then some (.agg ds) else none
      | none => none
    | .tuple cs => (mapO (renV m R f) cs).map .tuple
    | v => bif below m f v then some v else none

/-- The cells of an element, or of a box, under new names. -/
def renE (m : Nat) (R : List Nat) (x : AVal) : Option AVal := match x with
  | .agg cs => match mapO (renV m R 40) cs with
    | some ds => bif ds.all (·.scalar) then some (.agg ds) else none
    | none => none
  | x => match renV m R 40 x with
    | some y => bif x.scalar && y.scalar then some y else none
    | none => none

def renO (m : Nat) (R : List Nat) : AObj → Option AObj
  | .cells x => (renE m R x).map .cells
  | .row sz k xs => (mapO (renE m R) xs).map (.row sz k)
  | .map es => (mapO (fun (kv : AVal × AVal) => match renV m R 40 kv.1, renV m R 40 kv.2 with | some k, some v => some (k, v) | _, _ => none) es).map .map
  | .defd => some .defd
  | .dead => some .dead
  | .loop _ => none

/-- The names from m on that a value has. -/
def namesV (m : Nat) : Nat → AVal → List Nat
  | 0, _ => []
  | f + 1, v => match v with
    | .ptr n _ _ | .rptr n _ _ _ _ | .row n _ _ _ _ | .map n | .brow n _ _ _ => bif Nat.ble m n then [n] else []
    | .fn _ a b => a.flatMap (namesV m f) ++ b.flatMap (namesV m f)
    | .iface _ x => namesV m f x
    | .agg cs | .tuple cs => cs.flatMap (namesV m f)
    | _ => []

def namesO (m : Nat) : AObj → List Nat
  | .cells x => namesV m 40 x
  | .row _ _ xs => xs.flatMap (namesV m 40)
  | .map es => es.flatMap fun kv => namesV m 40 kv.1 ++ namesV m 40 kv.2
  | _ => []

def insN (n : Nat) : List Nat → List Nat
  | [] => [n]
  | a :: l => bif Nat.blt n a then n :: a :: l else bif Nat.beq n a then a :: l else a :: insN n l

def reach (m : Nat) (H : AHeap) : Nat → List Nat → List Nat → List Nat
  | 0, _, R => R
  | _ + 1, [], R => R
  | f + 1, n :: todo, R => bif R.any (Nat.beq n) then reach m H f todo R else match H[n]? with
    | some o => reach m H f (namesO m o ++ todo) (insN n R)
    | none => reach m H f todo R

def resA (fn : Func) (T : Tr) (H : AHeap) (P : Program) : Option AVal :=
  match fn.results.toList with
  | [] => some (.tuple [])
  | [r] => one r
  | rs => (mapO one rs).map .tuple
 where
  one : ResultVar → Option AVal
    | .tmp t => bif Nat.blt t fn.ntmps then some (T.get t) else none
    | .cell a t => bif Nat.blt a fn.ntmps then match tyA P t, T.get a with
      | some (s, ag), .ptr n 0 off => match H[n]? with
        | some (.cells x) => bif Nat.ble (off + s) x.cells.length && (ag || Nat.beq s 1) then some (getA x off s ag) else none
        | _ => none
      | _, _ => none
      else none

/-- The rounds' temporaries. -/
def roundTr (L : Tr) : List Tmp → List AVal → Tr
  | p :: ps, a :: as => roundTr (L.set p a) ps as
  | _, _ => L

/-- Code, operations, or a call to be run. -/
inductive Job where
  | code (nt : Nat) (r : Option Nat) (c : ACode) (T : Tr) (H : AHeap) (D : List Nat)
  | ents (nt : Nat) (es : List AEnt) (T : Tr) (H : AHeap) (lo : Nat)
  | entsD (nt : Nat) (es : List AEnt) (T : Tr) (H : AHeap) (lo : Nat) (acc : List Cls)
  | call (fv : AVal) (args : List AVal) (H : AHeap)
  | fn (f : FuncId) (args : List AVal) (H : AHeap)

/-- lo: no object below it was written. free: the call stands in every memory. -/
inductive Out where
  | code (e : Ex) (T : Tr) (H : AHeap) (D : List Nat) (lo : Nat)
  | val (v : AVal) (H : AHeap) (lo : Nat) (free : Bool)
  | draw (T : Tr) (H : AHeap) (lo : Nat) (acc : List Cls)
  | fail (why : String)

def evO (nt : Nat) (T : Tr) : Operand → AVal
  | .tmp t => bif Nat.blt t nt then T.get t else .any
  | .const c => aeval 0 (fun _ => .any) (.const c)
  | .func f => .fn (.func f) [] []
  | .global _ => .any

def marks (H : AHeap) : List Nat → Bool
  | [] => true
  | n :: D => !D.contains n && (match H[n]? with | some .defd => true | _ => false) && marks H D

/-- What a call leaves. -/
def fin (m : Nat) (v : AVal) (H1 : AHeap) (lo : Nat) : Out :=
  match frz m H1 40 v with
  | some v' => bif ((H1.take m).drop lo).all (belowO m 40) then .val v' (H1.take m) lo false else .val v H1 lo false
  | none => .val v H1 lo false

def compact (m : Nat) (v0 : AVal) (H1 : AHeap) (lo : Nat) : Out :=
  let R := reach m H1 1000 (namesV m 40 v0 ++ ((H1.take m).drop lo).flatMap (namesO m)) []
  bif asc m R && Nat.ble lo m then
    match renV m R 40 v0, mapO (renO m R) ((H1.take m).drop lo), mapO (fun n => match H1[n]? with | some o => renO m R o | none => none) R with
    | some v, some olds, some news => .val v (H1.take lo ++ olds ++ news) lo false
    | _, _, _ => .val v0 H1 lo false
  else .val v0 H1 lo false

def jumpOf : Ex → Option Code
  | .normal => none
  | .exit id => some (.exit id)
  | .ret => some .ret

/-- The object that an address names. -/
def nameOf : AVal → Option Nat
  | .ptr n _ _ | .rptr n _ _ _ _ | .row n _ _ _ _ | .map n | .brow n _ _ _ => some n
  | _ => none

/-- What an operation touches. -/
def footA (e : Operand → AVal) (H : AHeap) (o : AOp) : Option Cls :=
  match o.kd with
  | .n => some .n
  | .r => match o with
    | .load _ _ a => some (.r (nameOf (e a)).toList)
    | .b2s x | .lenM x => some (.r (nameOf (e x)).toList)
    | .s2b _ => some (.r [])
    | .look _ _ _ m _ => some (.r (nameOf (e m)).toList)
    | _ => none
  | .a => some (.a H.length)
  | .w => match o with
    | .store _ a _ => (nameOf (e a)).map fun n => .w (.one n)
    | .mup _ m _ _ => (nameOf (e m)).map fun n => .w (.one n)
    | .clr _ _ x => some (.w (.from 0))
    | .app _ _ _ _ => some (.w (.from 0))
    | _ => none

/-! ### What a call may read but not write -/
def oneB : List AVal → AVal
  | [d] => d
  | ds => .agg ds

def elemB (p : AVal → Option AVal) (cs : List AVal) : Option AVal := match mapO p cs with
  | some ds => bif ds.all (·.scalar) then some (oneB ds) else none
  | none => none

def chunksL (sz : Nat) : Nat → List AVal → List (List AVal)
  | 0, _ => []
  | n + 1, cs => cs.take sz :: chunksL sz n (cs.drop sz)

/-- A value as a call sees it that writes to none of the objects. -/
def frzB (H : AHeap) : Nat → AVal → Option AVal
  | 0, _ => none
  | f + 1, v => match v with
    | .row n k sz off len => match H[n]? with
      | some (.row sz' k' xs) => bif Nat.beq sz sz' && Nat.beq k k' && Nat.ble (off + len) xs.length then (mapO (fun x => elemB (frzB H f) x.cells) ((xs.drop off).take len)).map fun zs => .imm sz zs false else none
      | _ => none
    | .brow n sz off len => match H[n]? with
      | some (.cells x) => bif Nat.ble ((off + len) * sz) x.cells.length then (mapO (elemB (frzB H f)) (chunksL sz len (x.cells.drop (off * sz)))).map fun zs => .imm sz zs false else none
      | _ => none
    | .ptr n 0 off => match H[n]? with
      | some (.cells x) => (elemB (frzB H f) x.cells).map fun y => .iptr y off
      | _ => none
    | .agg cs => match mapO (frzB H f) cs with
      | some ds => bif ds.all (·.scalar) then some (.agg ds) else none
      | none => none
    | .fn (.func g) a b => match mapO (frzB H f) a, mapO (frzB H f) b with
      | some a', some b' => some (.fn (.func g) a' b')
      | _, _ => none
    | .iface t x => (frzB H f x).map (.iface t)
    | v => bif below 0 f v then some v else none

/-- A value that reads no memory. -/
def flatV : Nat → AVal → Bool
  | 0, _ => false
  | f + 1, v => match v with
    | .bool _ | .int _ _ | .flt _ _ | .str _ | .nilPtr | .nilS | .empS | .nilMap | .nilFn | .nilIface | .any => true
    | .imm _ [] _ => true
    | .iface _ x => flatV f x
    | .agg cs | .tuple cs => cs.all (flatV f)
    | _ => false

/-! ### What is known of closed calls -/
def eqvL (p : AVal → AVal → Bool) : List AVal → List AVal → Bool
  | [], [] => true
  | a :: as, b :: bs => eqvL p as bs && p a b
  | _, _ => false

def eqvB : List UInt8 → List UInt8 → Bool
  | [], [] => true
  | a :: as, b :: bs => Nat.beq a.toNat b.toNat && eqvB as bs
  | _, _ => false

/-- Two values are the same, as far as the fuel goes. -/
def eqv : Nat → AVal → AVal → Bool
  | 0, _, _ => false
  | f + 1, a, b => match a, b with
    | .bool x, .bool y => x == y
    | .int k m, .int k' n => decide (k = k') && decide (m = n)
    | .str s, .str t => eqvB s.data.toList t.data.toList
    | .nilPtr, .nilPtr => true
    | .nilS, .nilS => true
    | .empS, .empS => true
    | .nilMap, .nilMap => true
    | .nilFn, .nilFn => true
    | .nilIface, .nilIface => true
    | .imm sz xs u, .imm sz' ys u' => Nat.beq sz sz' && (u == u') && eqvL (eqv f) xs ys
    | .iptr x o, .iptr y o' => Nat.beq o o' && eqv f x y
    | .fn (.func g) xs cs, .fn (.func g') ys ds => Nat.beq g g' && eqvL (eqv f) xs ys && eqvL (eqv f) cs ds
    | .agg xs, .agg ys => eqvL (eqv f) xs ys
    | .tuple xs, .tuple ys => eqvL (eqv f) xs ys
    | .ptr n k o, .ptr n' k' o' => Nat.beq n n' && Nat.beq k k' && Nat.beq o o'
    | .row n k sz o l, .row n' k' sz' o' l' => Nat.beq n n' && Nat.beq k k' && Nat.beq sz sz' && Nat.beq o o' && Nat.beq l l'
    | .map n, .map n' => Nat.beq n n'
    | .iface t x, .iface t' y => Nat.beq t t' && eqv f x y
    | .any, .any => true
    | _, _ => false

def eqvE (f : Nat) : List (AVal × AVal) → List (AVal × AVal) → Bool
  | [], [] => true
  | (a, b) :: l, (c, d) :: r => eqv f a c && eqv f b d && eqvE f l r
  | _, _ => false

/-- Two objects are the same. -/
def eqvO : AObj → AObj → Bool
  | .cells x, .cells y => eqv 40 x y
  | .row sz k xs, .row sz' k' ys => Nat.beq sz sz' && Nat.beq k k' && eqvL (eqv 40) xs ys
  | .map es, .map fs => eqvE 40 es fs
  | .defd, .defd => true
  | .dead, .dead => true
  | _, _ => false

/-- The names, from n on, of the objects that are not seen to be the same. -/
def changed : Nat → List AObj → List AObj → List Nat
  | n, a :: l, b :: r => bif eqvO a b then changed (n + 1) l r else n :: changed (n + 1) l r
  | n, _ :: l, [] => n :: changed (n + 1) l []
  | _, [], _ => []

/-- keep: functions whose results stay as they are; gc: functions behind which objects are forgotten that nothing reaches; opn: functions that are run in the memory as it is; memo: what is known of closed calls. -/
structure Cfg where
  keep : List Nat := []
  gc : List Nat := []
  opn : List Nat := []
  memo : List (FuncId × List AVal × AVal) := []

def findMemo (f : FuncId) (args : List AVal) : List (FuncId × List AVal × AVal) → Option AVal
  | [] => none
  | (g, as, v) :: M => bif Nat.beq g f && eqvL (eqv 40) as args then some v else findMemo f args M

/-- What is left untouched, behind an operation. -/
def stepLo (o : AOp) (lo lo1 : Nat) : Nat := match o.kd with
  | .n | .r => lo
  | _ => Nat.min lo lo1

/-- Whether an object is laid in the region. -/
def needR (es : List AEnt) (acc : List Cls) : Bool := es.any (fun e => match e.op.kd with | .a => true | _ => false) || acc.any (fun c => match c with | .a _ => true | _ => false)

def run (P : Program) (K : Cfg) : Nat → Job → Out
  | 0, _ => .fail "fuel"
  | n + 1, .code nt r c T H D => match c with
    | .skip => .code .normal T H D H.length
    | .exit id => .code (.exit id) T H D H.length
    | .ret => .code .ret T H D H.length
    | .seq a b => match run P K n (.code nt r a T H D) with
      | .code .normal T H D lo => match run P K n (.code nt r b T H D) with
        | .code e T H D lo' => .code e T H D (Nat.min lo lo')
        | x => x
      | x => x
    | .cond c a b => match evO nt T c with
      | .bool true => run P K n (.code nt r a T H D)
      | .bool false => run P K n (.code nt r b T H D)
      | _ => .fail "cond"
    | .block id a => match run P K n (.code nt r a T H D) with
      | .code (.exit i) T H D lo => bif Nat.beq i id then .code .normal T H D lo else .code (.exit i) T H D lo
      | x => x
    | .scope a => run P K n (.code nt r a T H D)
    | .loop a => match run P K n (.code nt r a T H D) with
      | .code .normal T H D lo => match run P K n (.code nt r (.loop a) T H D) with
        | .code e T H D lo' => .code e T H D (Nat.min lo lo')
        | x => x
      | x => x
    | .reg es => match run P K n (.ents nt es T H H.length) with
      | .code _ T H _ lo => .code .normal T H D lo
      | x => x
    | .regD ps es => match run P K n (.entsD nt es T H H.length []) with
      | .draw T H lo acc => bif regC ps acc then .code .normal T H D lo else .fail "order"
      | .fail w => .fail w
      | _ => .fail "job"
    | .bad => .fail "bad"
    | .range f params as body => bif (match r with | none => true | some n0 => match H[n0]? with | some (.loop _) => true | _ => false) then
      let m := match r with | none => H.length + 1 | some _ => H.length
      let D' := match r with | none => H.length :: D | some _ => D
      let lp : AObj := .loop { st := .ready, pending := none, tr := T, nt := nt, params := params, assign := as, body := body }
      match run P K n (.call (evO nt T f) [.yld m] (match r with | none => H ++ [.defd, lp] | some _ => H ++ [lp])) with
      | .val _ H2 lo _ => match H2[m]? with
        | some (.loop L2) => match L2.st with
          | .busy => .fail "loop busy"
          | _ =>
            let H3 := H2.set m .dead
            match L2.pending with
            | none => .code .normal T H3 D' (Nat.min H.length lo)
            | some .ret => .code .ret T H3 D' (Nat.min H.length lo)
            | some (.exit id) => .code (.exit id) T H3 D' (Nat.min H.length lo)
            | _ => .fail "loop pending"
        | _ => .fail "no loop"
      | .fail w => .fail w
      | _ => .fail "job"
      else .fail "no round"
  | n + 1, .ents nt es T H lo => match es with
    | [] => .code .normal T H [] lo
    | en :: es =>
      let go : Out := match en.op with
        | .call f args => match run P K n (.call (evO nt T f) (args.map (evO nt T)) H) with
          | .val v H1 lo1 _ => run P K n (.ents nt es (T.setO en.dst v) H1 (Nat.min lo lo1))
          | .fail w => .fail w
          | _ => .fail "call"
        | op => match stepA (evO nt T) H op with
          | some (v, H, lo1) => run P K n (.ents nt es (T.setO en.dst v) H (stepLo op lo lo1))
          | none => .fail "op"
      match en.guard with
      | none => go
      | some (t, w) => match yieldOf (evO nt T (.tmp t)) with
        | some y => bif (y == some w) then go else run P K n (.ents nt es (T.setO en.dst (.tuple [])) H lo)
        | none => .fail "guard"
  | n + 1, .entsD nt es T H lo acc => match es with
    | [] => .draw T H lo acc.reverse
    | en :: es =>
      let go : Out := match en.op with
        | .call f args => match run P K n (.call (evO nt T f) (args.map (evO nt T)) H) with
          | .val v H1 lo1 free => bif free then run P K n (.entsD nt es (T.setO en.dst v) H lo (.r [] :: acc))
            else bif needR es acc && Nat.ble H.length lo1 && Nat.beq H1.length H.length && H.all (belowO H.length 40) && below H.length 40 (evO nt T f) && args.all (fun x => below H.length 40 (evO nt T x)) then run P K n (.entsD nt es (T.setO en.dst v) H lo (.r (List.range H.length) :: acc))
            else bif Nat.ble H.length H1.length then run P K n (.entsD nt es (T.setO en.dst v) H1 (Nat.min lo lo1) (.w (.set (changed lo1 (H.drop lo1) (H1.drop lo1)) H.length) :: acc)) else .fail "shrunk"
          | .fail w => .fail w
          | _ => .fail "call"
        | op => match stepA (evO nt T) H op with
          | some (v, H1, lo1) => match footA (evO nt T) H op with
            | some c => run P K n (.entsD nt es (T.setO en.dst v) H1 (stepLo op lo lo1) (c :: acc))
            | none => .fail "foot"
          | none => .fail "op"
      match en.guard with
      | none => go
      | some (t, w) => match yieldOf (evO nt T (.tmp t)) with
        | some y => bif (y == some w) then go else run P K n (.entsD nt es (T.setO en.dst (.tuple [])) H lo (.skip :: acc))
        | none => .fail "guard"
  | n + 1, .call fv args H => match fv with
    | .fn (.func f) first cap =>
      let args := first ++ args ++ cap
      bif K.opn.contains f then run P K n (.fn f args H) else match findMemo f args K.memo with
      | some v => .val v H H.length true
      | none => bif args.all (below 0 40) then match run P K n (.fn f args []) with
          | .val v [] _ _ => .val v H H.length true
          | .val _ _ _ _ => run P K n (.fn f args H)
          | x => x
        else match mapO (frzB H 40) args with
          | none => run P K n (.fn f args H)
          | some args' => match findMemo f args' K.memo with
            | some v => bif flatV 40 v then .val v H H.length false else run P K n (.fn f args H)
            | none => match run P K n (.fn f args' []) with
              | .val v [] _ _ => bif flatV 40 v then .val v H H.length false else run P K n (.fn f args H)
              | _ => run P K n (.fn f args H)
    | .yld m => match H[m]? with
      | some (.loop L) => match L.st, compile P L.assign, compile P L.body with
        | .ready, some ca, some cb => bif Nat.beq L.params.size args.length then match run P K n (.code L.nt (some m) ca (roundTr L.tr L.params.toList args) H []) with
          | .code .normal T1 H1 [] lo1 => match H1[m]? with
            | some (.loop L1) => match L1.st with
              | .ready => match run P K n (.code L.nt (some m) cb T1 (H1.set m (.loop { L1 with st := .busy })) []) with
                | .code e2 _ H2 [] lo2 => match H2[m]? with
                  | some (.loop L2) =>
                    let lo := Nat.min m (Nat.min lo1 lo2)
                    match e2 with
                    | .normal => fin H.length (.bool true) (H2.set m (.loop { L2 with st := .ready, pending := none })) lo
                    | e2 => fin H.length (.bool false) (H2.set m (.loop { L2 with st := .done, pending := jumpOf e2 })) lo
                  | _ => .fail "no loop"
                | .fail w => .fail w
                | _ => .fail "round"
              | _ => .fail "round"
            | _ => .fail "no loop"
          | .fail w => .fail w
          | _ => .fail "round"
          else .fail "params"
        | _, _, _ => .fail "round comp"
      | _ => .fail "no loop"
    | _ => .fail "fv"
  | n + 1, .fn f args H => match P.funcs[f]? with
    | none => .fail "func"
    | some fn => match okFn P f, fn.body.bind (compile P), Nat.ble args.length fn.ntmps with
      | true, some c, true => match run P K n (.code fn.ntmps none c (Tr.ofArgs args) H []) with
        | .code e T1 H1 D1 lo => match e with
          | .exit _ => .fail "exit"
          | _ => bif marks H1 D1 then
              let H2 := killAll D1 H1
              match resA fn T1 H2 P with
              | some v0 => bif K.keep.contains f then .val v0 H2 lo false else bif K.gc.contains f then compact H.length v0 H2 lo else fin H.length v0 H2 lo
              | none => .fail "results"
            else .fail "marks"
        | .fail w => .fail (w ++ " < " ++ fn.name)
        | _ => .fail "fn"
      | _, _, _ => .fail ("comp " ++ fn.name)
end Go.Proofs.YtennhanlcbibaaaGreatDoor.Lb

/- Each operation does what the list of operations says: those that ask nothing of memory, first part. -/
namespace Go.Proofs.YtennhanlcbibaaaGreatDoor.Lb
open Go

section
variable {P : Program} {nt : Nat} {o : Oper} {T : Nat → AVal}

theorem sn_mv {x : Operand} {v : AVal} (ho : o.op = .move x ∨ o.op = .assign x) (h : stepN (aeval nt T) (.mv x) = some v) : OpN P nt o T v := by
  simp only [stepN, Option.some.injEq] at h
  exact opn_move ho h

theorem sn_pick {c x y : Operand} {v : AVal} (ho : o.op = .pick c x y) (h : stepN (aeval nt T) (.pick c x y) = some v) : OpN P nt o T v := by
  simp only [stepN] at h
  split at h
  · rename_i t ht
    injection h with h
    exact opn_pick ho ht (by rw [← h]; cases t <;> rfl)
  · cases h

theorem sn_nilck {x : Operand} {v : AVal} (ho : o.op = .nilCheck x) (h : stepN (aeval nt T) (.nilck x) = some v) : OpN P nt o T v := by
  simp only [stepN] at h
  cases ht : (aeval nt T x).there with
  | true =>
    rw [ht] at h
    simp only [cond_true, Option.some.injEq] at h
    exact opn_nilCheck ho h (by rw [← h]; exact ht)
  | false => rw [ht] at h; cases h

theorem sn_bin {b : BinOp} {xt yt : TypeId} {x y : Operand} {v : AVal} (ho : o.op = .binOp b xt x y yt) (h : stepN (aeval nt T) (.bin b x y) = some v) : OpN P nt o T v := opn_bin ho h

theorem sn_cat {xt yt : TypeId} {x y : Operand} {v : AVal} (ho : o.op = .binOp .add xt x y yt) (h : stepN (aeval nt T) (.cat x y) = some v) : OpN P nt o T v := by
  simp only [stepN] at h
  split at h
  · rename_i s t hx hy
    cases hl : Nat.ble (s.size + t.size) 9223372036854775807 with
    | true => rw [hl] at h; injection h with h; subst h; exact opn_cat ho hx hy (Nat.le_of_ble_eq_true hl)
    | false => rw [hl] at h; cases h
  · cases h

theorem sn_div {b : BinOp} {xt yt : TypeId} {x y : Operand} {v : AVal} (ho : o.op = .binOp b xt x y yt) (h : stepN (aeval nt T) (.div b x y) = some v) : OpN P nt o T v := by
  simp only [stepN] at h
  split at h
  · rename_i k m k' n hx hy
    split at h
    · rename_i hc; obtain ⟨hn, rfl⟩ := hc; exact opn_div ho hx hy hn h
    · cases h
  · rename_i k m k' n hx hy
    split at h
    · rename_i hc; obtain ⟨hn, rfl⟩ := hc; exact opn_div ho hx hy hn h
    · cases h
  · cases h

theorem sn_shift {b : BinOp} {xt yt : TypeId} {x y : Operand} {v : AVal} (ho : o.op = .binOp b xt x y yt) (h : stepN (aeval nt T) (.shift b x y) = some v) : OpN P nt o T v := by
  simp only [stepN] at h
  split at h
  · rename_i k m k' n hx hy; exact opn_shift (n := Int.ofNat n) ho hx hy (by exact Int.natCast_nonneg n) h
  · rename_i k m k' n hx hy; exact opn_shift (n := Int.ofNat n) ho hx hy (by exact Int.natCast_nonneg n) h
  · cases h

theorem opn_cmp {b : BinOp} {t yt : TypeId} {x y : Operand} {r : Bool} (ho : o.op = .binOp b t x y yt) (hb : b = .eql ∨ b = .neq)
    (hne : ∀ g a, ERel g nt T a o → ∀ w, (eqGuard b t x y (a.eval x) (a.eval y)).run P w = .ok () w ∧ (∀ k m l n, ¬ (a.eval x = .int k m ∧ a.eval y = .int l n)) ∧ (∀ k m l n, ¬ (a.eval x = .float k m ∧ a.eval y = .float l n)) ∧
      (∀ k m m' l n n', ¬ (a.eval x = .complex k m m' ∧ a.eval y = .complex l n n')) ∧ (∀ s s', ¬ (a.eval x = .string s ∧ a.eval y = .string s')) ∧ (Op.equal t (a.eval x) (a.eval y)).run P w = .ok r w) :
    OpN P nt o T (.bool (negOf b != r)) := by
  refine ⟨(fun c e => by rw [ho] at e; cases e), fun g a w he => ⟨_, .bool _, ?_⟩⟩
  obtain ⟨h1, h2, h3, h4, h5, h6⟩ := hne g a he w
  generalize hvx : a.eval x = vx at *
  generalize hvy : a.eval y = vy at *
  have hbin : binOp b t vx vy = (match b with | .eql => do pure (.bool (← Op.equal t vx vy)) | _ => do pure (.bool (!(← Op.equal t vx vy)))) := by
    rcases hb with rfl | rfl
    · unfold binOp
      split <;> first
        | rfl
        | (exfalso; rename_i e _ _; cases e; done)
        | (exfalso; exact h2 _ _ _ _ ⟨rfl, rfl⟩)
        | (exfalso; exact h3 _ _ _ _ ⟨rfl, rfl⟩)
        | (exfalso; exact h4 _ _ _ _ _ _ ⟨rfl, rfl⟩)
        | (exfalso; exact h5 _ _ ⟨rfl, rfl⟩)
        | (exfalso; simp_all; done)
    · unfold binOp
      split <;> first
        | rfl
        | (exfalso; rename_i e _ _; cases e; done)
        | (exfalso; exact h2 _ _ _ _ ⟨rfl, rfl⟩)
        | (exfalso; exact h3 _ _ _ _ ⟨rfl, rfl⟩)
        | (exfalso; exact h4 _ _ _ _ _ _ ⟨rfl, rfl⟩)
        | (exfalso; exact h5 _ _ ⟨rfl, rfl⟩)
        | (exfalso; simp_all; done)
  simp only [execOp, ho, hvx, hvy, Sem.run_bind, h1, Result.andThen_ok, hbin]
  rcases hb with rfl | rfl <;> simp [h6, negOf]

theorem sn_eqk {b : BinOp} {t yt : TypeId} {x y : Operand} {ks : List CK} {v : AVal} (ho : o.op = .binOp b t x y yt) (hb : b = .eql ∨ b = .neq) (hk : eqK P 8 t = some ks) (hag : tyA P t = some (ks.length, true)) (hg : P.eqGuardType P.depth t = false)
    (h : stepN (aeval nt T) (.eqk (negOf b) ks x y) = some v) : OpN P nt o T v := by
  simp only [stepN] at h
  split at h
  · rename_i cs ds hx hy
    obtain ⟨r, hr, rfl⟩ := Option.map_eq_some_iff.1 h
    refine opn_cmp ho hb fun g a he w => ?_
    have h1 := he x (by rw [ho]; simp [Op.operands])
    have h2 := he y (by rw [ho]; simp [Op.operands])
    rw [hx] at h1
    rw [hy] at h2
    generalize hx' : a.eval x = vx at *
    generalize hy' : a.eval y = vy at *
    obtain ⟨l1, l2⟩ := eqL_length _ _ _ _ hr
    cases h1 with
    | agg _ cs' k1 k2 k3 =>
      cases h2 with
      | agg _ ds' m1 m2 m3 =>
        obtain ⟨ag, ht, h1, hrun⟩ := eq_run (P := P) (g := g) w 8 t ks cs ds cs' ds' 0 0 r 9992 hk ⟨by omega, fun i c e => by rw [Nat.zero_add]; exact k3 i c e⟩ ⟨by omega, fun i c e => by rw [Nat.zero_add]; exact m3 i c e⟩ hr
        rw [hag] at ht
        injection ht with ht
        injection ht with _ ht
        subst ht
        have e1 : seg true cs' 0 ks.length = .agg cs' := by simp [seg, ← l1, ← k1]
        have e2 : seg true ds' 0 ks.length = .agg ds' := by simp [seg, ← l2, ← m1]
        rw [e1, e2] at hrun
        exact ⟨run_eqGuard_agg w _ t x y cs' ds' hg, by simp, by simp, by simp, by simp, hrun⟩
  · cases h

theorem sn_eqb {b : BinOp} {t yt : TypeId} {x y : Operand} {v : AVal} (ho : o.op = .binOp b t x y yt) (hb : b = .eql ∨ b = .neq) (ht : P.underlying t = some .bool) (h : stepN (aeval nt T) (.eqb (negOf b) x y) = some v) : OpN P nt o T v := by
  simp only [stepN] at h
  split at h
  · rename_i p q hx hy
    injection h with h
    subst h
    refine opn_cmp ho hb fun g a he w => ?_
    have h1 := he x (by rw [ho]; simp [Op.operands])
    have h2 := he y (by rw [ho]; simp [Op.operands])
    rw [hx] at h1
    rw [hy] at h2
    generalize hx' : a.eval x = vx at *
    generalize hy' : a.eval y = vy at *
    cases h1; cases h2
    refine ⟨?_, by simp, by simp, by simp, by simp, ?_⟩
    · rcases hb with rfl | rfl <;> simp [eqGuard]
    · have : ∀ d, (Op.equalIn (d + 1) t (.bool p) (.bool q)).run P w = .ok (p == q) w := fun d => by simp [Op.equalIn, run_underlying ht]
      exact this 9999
  · cases h

theorem sn_isS {b : BinOp} {t yt : TypeId} {x : Operand} {e : TypeId} {v : AVal} (ho : o.op = .binOp b t x (.const (.slice none 0 0)) yt) (hb : b = .eql ∨ b = .neq) (ht : P.underlying t = some (.slice e)) (h : stepN (aeval nt T) (.isS (negOf b) x) = some v) : OpN P nt o T v := by
  have key : ∀ r, v = .bool (negOf b != r) → (∀ g u, VRel g (aeval nt T x) u → ∃ bo n c, u = .slice bo n c ∧ r = bo.isNone) → OpN P nt o T v := by
    rintro r rfl hr
    refine opn_cmp ho hb fun g a he w => ?_
    have h1 := he x (by rw [ho]; simp [Op.operands])
    obtain ⟨bo, n, c, hu, rfl⟩ := hr g _ h1
    rw [hu]
    have hnl : a.eval (.const (.slice none 0 0)) = .slice none 0 0 := rfl
    rw [hnl]
    refine ⟨?_, by simp, by simp, by simp, by simp, ?_⟩
    · rcases hb with rfl | rfl <;> simp [eqGuard]
    · have : ∀ d, (Op.equalIn (d + 1) t (.slice bo n c) (.slice none 0 0)).run P w = .ok bo.isNone w := fun d => by cases bo <;> simp [Op.equalIn, run_underlying ht]
      exact this 9999
  simp only [stepN] at h
  split at h
  · rename_i e; injection h with h; exact key true h.symm (fun g u hu => by rw [e] at hu; cases hu; exact ⟨_, _, _, rfl, rfl⟩)
  · rename_i e; injection h with h; exact key false h.symm (fun g u hu => by rw [e] at hu; cases hu; exact ⟨_, _, _, rfl, rfl⟩)
  · rename_i e; injection h with h; exact key false h.symm (fun g u hu => by rw [e] at hu; cases hu; exact ⟨_, _, _, rfl, rfl⟩)
  · rename_i e; injection h with h; exact key false h.symm (fun g u hu => by rw [e] at hu; cases hu; exact ⟨_, _, _, rfl, rfl⟩)
  · rename_i e; injection h with h; exact key false h.symm (fun g u hu => by rw [e] at hu; cases hu <;> exact ⟨_, _, _, rfl, rfl⟩)
  · cases h

theorem sn_isI {b : BinOp} {t yt : TypeId} {x : Operand} {ms : Array (String × TypeId)} {v : AVal} (ho : o.op = .binOp b t x (.const .nilIface) yt) (hb : b = .eql ∨ b = .neq) (ht : P.underlying t = some (.interface ms)) (h : stepN (aeval nt T) (.isI (negOf b) x) = some v) : OpN P nt o T v := by
  simp only [stepN] at h
  split at h
  · rename_i e
    injection h with h
    subst h
    refine opn_cmp ho hb fun g a he w => ?_
    have h1 := he x (by rw [ho]; simp [Op.operands])
    rw [e] at h1
    generalize hx' : a.eval x = vx at *
    cases h1
    have hnl : a.eval (.const .nilIface) = .nilIface := rfl
    rw [hnl]
    refine ⟨?_, by simp, by simp, by simp, by simp, ?_⟩
    · rcases hb with rfl | rfl <;> simp [eqGuard]
    · have : ∀ d, (Op.equalIn (d + 1) t .nilIface .nilIface).run P w = .ok true w := fun d => by simp [Op.equalIn, run_underlying ht]
      exact this 9999
  · rename_i tt vv e
    injection h with h
    subst h
    refine opn_cmp ho hb fun g a he w => ?_
    have h1 := he x (by rw [ho]; simp [Op.operands])
    rw [e] at h1
    generalize hx' : a.eval x = vx at *
    cases h1
    have hnl : a.eval (.const .nilIface) = .nilIface := rfl
    rw [hnl]
    refine ⟨?_, by simp, by simp, by simp, by simp, ?_⟩
    · rcases hb with rfl | rfl <;> simp [eqGuard]
    · have : ∀ d u, (Op.equalIn (d + 1) t (.iface tt u) .nilIface).run P w = .ok false w := fun d u => by simp [Op.equalIn, run_underlying ht]
      exact this 9999 _
  · cases h

theorem sn_un {u : UnOp} {xt : TypeId} {x : Operand} {v : AVal} (ho : o.op = .unOp u xt x) (h : stepN (aeval nt T) (.un u x) = some v) : OpN P nt o T v := opn_un ho h

theorem sn_conv {s d : TypeId} {x : Operand} {k0 k : IntKind} {v : AVal} (ho : o.op = .convert s d x) (h1 : P.underlying s = some (.int k0)) (h2 : P.underlying d = some (.int k)) (h : stepN (aeval nt T) (.conv k x) = some v) : OpN P nt o T v := by
  simp only [stepN] at h
  split at h
  · rename_i k1 n hx
    injection h with h
    subst h
    exact opn_conv ho (by unfold convA; rw [h1, h2]) hx
  · cases h

theorem sn_str {s d : TypeId} {x : Operand} {v : AVal} (ho : o.op = .convert s d x) (h1 : P.underlying s = some .string) (h2 : P.underlying d = some .string) {b : ByteArray} (hx : aeval nt T x = .str b) : OpN P nt o T (.str b) := by
  refine ⟨(fun c e => by rw [ho] at e; cases e), fun g a w he => ?_⟩
  have h := he x (by rw [ho]; simp [Op.operands])
  rw [hx] at h
  generalize hx' : a.eval x = vx at *
  cases h
  exact ⟨_, .str _, by simp [execOp, ho, hx', convert, run_underlying h1, run_underlying h2]⟩

theorem sn_mkI {t : TypeId} {x : Operand} {v : AVal} {d : TypeDesc} (ho : o.op = .makeInterface t x) (ht : P.underlying t = some d) (hd : ∀ ms, d ≠ .interface ms) (h : stepN (aeval nt T) (.mkI t x) = some v) : OpN P nt o T v := by
  simp only [stepN, Option.some.injEq] at h
  subst h
  refine ⟨(fun c e => by rw [ho] at e; cases e), fun g a w he => ?_⟩
  have h := he x (by rw [ho]; simp [Op.operands])
  refine ⟨.iface t (a.eval x), .iface t _ _ h, ?_⟩
  simp only [execOp, ho, Instr.makeInterface, Sem.run_bind, run_underlying ht, Result.andThen_ok]
  cases d <;> first | rfl | exact absurd rfl (hd _)

theorem sn_mkF {fn : Fn} {first cap : Array Operand} {v : AVal} (ho : o.op = .makeFunc fn first cap) (h : stepN (aeval nt T) (.mkF fn first.toList cap.toList) = some v) : OpN P nt o T v := by
  simp only [stepN, Option.some.injEq] at h
  subst h
  refine ⟨(fun c e => by rw [ho] at e; cases e), fun g a w he => ?_⟩
  refine ⟨.func fn (first.map a.eval) (cap.map a.eval), .fn fn _ _ _ _ (by simp) (by simp) (fun i c e => ?_) (fun i c e => ?_), ?_⟩
  · rw [List.getElem?_map] at e
    obtain ⟨x, hx, rfl⟩ := Option.map_eq_some_iff.1 e
    have hi : i < first.size := by simpa using lt_of_getElem?_some hx
    have hxx : first[i] = x := by rw [Array.getElem?_toList, Array.getElem?_eq_getElem hi] at hx; injection hx
    have hm : x ∈ o.op.operands := by rw [ho]; simp only [Op.operands]; exact Array.mem_append_left _ (by rw [← hxx]; exact Array.getElem_mem hi)
    have := he x hm
    simpa [Array.getD, hi, hxx] using this
  · rw [List.getElem?_map] at e
    obtain ⟨x, hx, rfl⟩ := Option.map_eq_some_iff.1 e
    have hi : i < cap.size := by simpa using lt_of_getElem?_some hx
    have hxx : cap[i] = x := by rw [Array.getElem?_toList, Array.getElem?_eq_getElem hi] at hx; injection hx
    have hm : x ∈ o.op.operands := by rw [ho]; simp only [Op.operands]; exact Array.mem_append_right _ (by rw [← hxx]; exact Array.getElem_mem hi)
    have := he x hm
    simpa [Array.getD, hi, hxx] using this
  · simp [execOp, ho, Instr.makeFunc]

theorem sn_fa {t : TypeId} {x : Operand} {f off s : Nat} {ag : Bool} {v : AVal} (ho : o.op = .fieldAddr t x f) (hf : fldA P t f = some (off, s, ag)) (hs : s ≠ 0) (h : stepN (aeval nt T) (.fa off x) = some v) : OpN P nt o T v := opn_fieldAddr ho hf hs h

theorem sn_fld {t : TypeId} {x : Operand} {f off s : Nat} {ag : Bool} {v : AVal} (ho : o.op = .field t x f) (hf : fldA P t f = some (off, s, ag)) (h1 : ag = true ∨ s = 1) (h : stepN (aeval nt T) (.fld off s ag x) = some v) : OpN P nt o T v := by
  simp only [stepN] at h
  split at h
  · rename_i cs hx
    cases hl : Nat.ble (off + s) cs.length with
    | true => rw [hl] at h; injection h with h; subst h; exact opn_field ho hf hx (Nat.le_of_ble_eq_true hl) h1
    | false => rw [hl] at h; cases h
  · cases h

theorem sn_ext {x : Operand} {i : Nat} {v : AVal} (ho : o.op = .extract x i) (h : stepN (aeval nt T) (.ext x i) = some v) : OpN P nt o T v := by
  simp only [stepN] at h
  split at h
  · rename_i vs hx; exact opn_extract ho hx h
  · cases h
end
end Go.Proofs.YtennhanlcbibaaaGreatDoor.Lb

/- Each operation does what the list of operations says: those that ask nothing of memory, second part. -/
namespace Go.Proofs.YtennhanlcbibaaaGreatDoor.Lb
open Go

section
variable {P : Program} {nt : Nat} {o : Oper} {T : Nat → AVal}

theorem foldl_set (l : List Value) : ∀ (k : Nat) (off : Nat) (arr : Array Value), off + k + l.length ≤ arr.size →
    ((l.zipIdx k).foldl (fun (cs : Array Value) (p : Value × Nat) => cs.setIfInBounds (off + p.2) p.1) arr).toList = spliceL arr.toList (off + k) l := by
  induction l with
  | nil => intro k off arr h; simp [spliceL]
  | cons v l ih =>
    intro k off arr h
    simp only [List.length_cons] at h
    simp only [List.zipIdx_cons, List.foldl_cons]
    rw [ih (k + 1) off _ (by simp; omega)]
    apply List.ext_getElem?
    intro i
    rw [splice_get (by simp; omega), splice_get (by simp; omega)]
    simp only [Array.toList_setIfInBounds, List.length_cons]
    by_cases h1 : i < off + k
    · rw [if_pos (by omega), if_pos h1, List.getElem?_set_ne (by omega)]
    · by_cases h2 : i = off + k
      · subst h2
        rw [if_pos (by omega), if_neg (by omega), if_pos (by omega), List.getElem?_set_self (by simp; omega)]
        simp
      · rw [if_neg (show ¬ i < off + (k + 1) by omega), if_neg h1]
        by_cases h3 : i < off + (k + 1) + l.length
        · rw [if_pos h3, if_pos (by omega), show i - (off + k) = (i - (off + (k + 1))) + 1 from by omega, List.getElem?_cons_succ]
        · rw [if_neg h3, if_neg (by omega), List.getElem?_set_ne (by omega)]

/-- One part written into cells. -/
theorem fill_one {g : G} {cs : List AVal} {arr : Array Value} {v : AVal} {u : Value} {off : Nat} (hs : arr.size = cs.length) (hc : ∀ (i : Nat) (c : AVal), cs[i]? = some c → c.scalar = true ∧ VRel g c (arr.getD i undef)) (hv : VRel g v u) (hb : v.boxable = true) (hl : off + v.cells.length ≤ cs.length) :
    (u.cells.zipIdx.foldl (fun (cs : Array Value) (p : Value × Nat) => cs.setIfInBounds (off + p.2) p.1) arr).size = (spliceL cs off v.cells).length ∧
    ∀ (i : Nat) (c : AVal), (spliceL cs off v.cells)[i]? = some c → c.scalar = true ∧ VRel g c ((u.cells.zipIdx.foldl (fun (cs : Array Value) (p : Value × Nat) => cs.setIfInBounds (off + p.2) p.1) arr).getD i undef) := by
  obtain ⟨k1, k2, k3⟩ := hv.boxed hb
  have hsp := foldl_set u.cells.toList 0 off arr (by simp; omega)
  simp only [Nat.add_zero] at hsp
  have harr2 : (u.cells.zipIdx.foldl (fun (cs : Array Value) (p : Value × Nat) => cs.setIfInBounds (off + p.2) p.1) arr).toList = spliceL arr.toList off u.cells.toList := by
    rw [← hsp, ← Array.foldl_toList]; simp
  refine ⟨?_, fun i c e => ?_⟩
  · rw [← Array.length_toList, harr2, splice_length (by simp; omega), splice_length (by omega)]; simpa using hs
  · rw [arr_getD, harr2]
    exact splice_rel (by simpa using hs) (fun i c e => by rw [← arr_getD]; exact hc i c e) (by simpa using k1) (fun i c e => by rw [← arr_getD]; exact k3 i c e) (by omega) i c e

theorem fill_rel {g : G} {place : Nat → Option (Nat × Nat)} {a : Act} : ∀ (parts : List (Nat × Operand)) (q : List (Nat × Nat × Operand)) (cs cs' : List AVal) (arr : Array Value), q.length = parts.length → (∀ (j : Nat) (p : Nat × Operand) (r : Nat × Nat × Operand), parts[j]? = some p → q[j]? = some r → place p.1 = some (r.1, r.2.1) ∧ r.2.2 = p.2) → (∀ p ∈ parts, VRel g (aeval nt T p.2) (a.eval p.2)) → arr.size = cs.length → (∀ (i : Nat) (c : AVal), cs[i]? = some c → c.scalar = true ∧ VRel g c (arr.getD i undef)) →
    fillP (aeval nt T) cs q = some cs' → ∃ arr', Instr.fill place arr (parts.map fun p => (p.1, a.eval p.2)) = some arr' ∧ arr'.size = cs'.length ∧ ∀ (i : Nat) (c : AVal), cs'[i]? = some c → c.scalar = true ∧ VRel g c (arr'.getD i undef)
  | [], [], cs, cs', arr, _, _, _, hs, hc, h => by
    simp only [fillP] at h
    injection h with h
    subst h
    exact ⟨arr, rfl, hs, hc⟩
  | [], _ :: _, _, _, _, h, _, _, _, _, _ => by simp at h
  | _ :: _, [], _, _, _, h, _, _, _, _, _ => by simp at h
  | (i, x) :: parts, (off, s, x') :: q, cs, cs', arr, hlen, hpl, hp, hs, hc, h => by
    obtain ⟨hpl0, hx0⟩ := hpl 0 _ _ rfl rfl
    simp only at hpl0 hx0
    subst hx0
    simp only [fillP] at h
    cases hcond : (Nat.beq (aeval nt T x').cells.length s && Nat.ble (off + s) cs.length && (aeval nt T x').boxable) with
    | false => rw [hcond] at h; cases h
    | true =>
      rw [hcond] at h
      simp only [cond_true] at h
      simp only [Bool.and_eq_true] at hcond
      obtain ⟨⟨c1, c2⟩, c3⟩ := hcond
      have c1 := Nat.eq_of_beq_eq_true c1
      have c2 := Nat.le_of_ble_eq_true c2
      have hrel := hp (i, x') (by simp)
      obtain ⟨k1, k2, k3⟩ := hrel.boxed c3
      simp only at k1 k2 k3 hrel
      obtain ⟨f1, f2⟩ := fill_one (off := off) hs hc hrel c3 (by omega)
      obtain ⟨arr', h1, h2, h3⟩ := fill_rel parts q (spliceL cs off (aeval nt T x').cells) cs' _ (by simpa using hlen) (fun j p r e f => hpl (j + 1) p r (by simpa using e) (by simpa using f)) (fun p hp' => hp p (by simp [hp'])) f1 f2 h
      refine ⟨arr', ?_, h2, h3⟩
      have hne : ((a.eval x').cells.size != s || decide (off + (a.eval x').cells.size > arr.size)) = false := by simp; omega
      simp only [List.map_cons, Instr.fill, hpl0]
      rw [if_neg (by simpa using hne)]
      exact h1

theorem partsA_spec {ps : List (Nat × Nat)} : ∀ (parts : List (Nat × Operand)) (q : List (Nat × Nat × Operand)), partsA ps parts = some q → q.length = parts.length ∧ ∀ (j : Nat) (p : Nat × Operand) (r : Nat × Nat × Operand), parts[j]? = some p → q[j]? = some r → ps[p.1]? = some (r.1, r.2.1) ∧ r.2.2 = p.2
  | [], q, h => by simp only [partsA, Option.some.injEq] at h; subst h; exact ⟨rfl, fun j p r e => by simp at e⟩
  | (i, x) :: parts, q, h => by
    simp only [partsA] at h
    split at h
    · rename_i off s r h1 h2
      injection h with h
      subst h
      obtain ⟨k1, k2⟩ := partsA_spec parts r h2
      refine ⟨by simp [k1], fun j p r' e f => ?_⟩
      cases j with
      | zero => simp at e f; subst e f; exact ⟨h1, rfl⟩
      | succ j => exact k2 j p r' (by simpa using e) (by simpa using f)
    · cases h

theorem mapM_places {P : Program} (w : World) : ∀ (fs : List Field) (ps : List (Nat × Nat)), fs.mapM (fun f => (tyA P f.type).map fun x => (f.offset, x.1)) = some ps → (fs.mapM (fun f => sizeOf f.type >>= fun s => pure (f.offset, s)) : Sem (List (Nat × Nat))).run P w = .ok ps w
  | [], ps, h => by simp at h; subst h; simp
  | f :: fs, ps, h => by
    simp only [List.mapM_cons] at h ⊢
    cases e : tyA P f.type with
    | none => rw [e] at h; simp at h
    | some x =>
      rw [e] at h
      simp only [Option.map_some, Option.bind_eq_bind, Option.bind_some] at h
      obtain ⟨r, hr, h2⟩ := Option.bind_eq_some_iff.1 h
      have ih := mapM_places w fs r hr
      injection h2 with h2
      obtain ⟨s, ag⟩ := x
      simp only [Sem.run_bind, (run_tyA e w).2, Result.andThen_ok, Sem.run_pure, ih, h2]

theorem sn_build {t : TypeId} {parts : Array (Nat × Operand)} {z : AVal} {ps : List (Nat × Nat)} {q : List (Nat × Nat × Operand)} {v : AVal} (ho : o.op = .build t parts) (hz : zeroA P t = some z) (hps : fldsA P t = some ps) (hq : partsA ps parts.toList = some q)
    (h : stepN (aeval nt T) (.build z.cells q) = some v) : OpN P nt o T v := by
  simp only [stepN] at h
  obtain ⟨cs, hcs, rfl⟩ := Option.map_eq_some_iff.1 h
  refine ⟨(fun c e => by rw [ho] at e; cases e), fun g a w he => ?_⟩
  obtain ⟨i, zv, hi, hzz, hb, hr⟩ := zeroA_spec hz
  obtain ⟨k1, k2, k3⟩ := (hr g).boxed hb
  obtain ⟨p1, p2⟩ := partsA_spec _ _ hq
  unfold fldsA at hps
  split at hps
  · rename_i fs hfs
    have hpl := mapM_places (P := P) w fs.toList ps hps
    obtain ⟨arr', h1, h2, h3⟩ := fill_rel (g := g) (a := a) (place := fun x => ps.toArray[x]?) parts.toList q z.cells cs zv.cells p1 (fun j p r e f => by simpa using p2 j p r e f) (fun p hp => he p.2 (by rw [ho]; simp only [Op.operands]; simp; exact ⟨p.1, by simpa using hp⟩)) k1 k3 hcs
    refine ⟨.agg arr', .agg _ _ h2 (fun i c e => (h3 i c e).1) (fun i c e => (h3 i c e).2), ?_⟩
    have hpl' : (fs.mapM (fun f => sizeOf f.type >>= fun s => pure (f.offset, s)) : Sem (Array (Nat × Nat))).run P w = .ok ps.toArray w := by
      rw [← Array.toArray_toList (xs := fs), List.mapM_toArray]
      simp only [map_eq_pure_bind, Sem.run_bind, hpl, Result.andThen_ok, Sem.run_pure]
    have hfill : Instr.fill (fun x => ps.toArray[x]?) zv.cells (parts.map fun (i, x) => (i, a.eval x)).toList = some arr' := by
      rw [Array.toList_map]; exact h1
    simp only [execOp, ho, Instr.build, zeroValue, typeInfo, Sem.run_bind, Sem.run_pure, Result.andThen_ok, run_underlying hfs]
    simp only [program, Sem.run, hi, hzz, Sem.run_pure, Result.andThen_ok, Sem.run_bind, hpl', hfill]
  · cases hps

theorem sn_buildArr {t : TypeId} {parts : Array (Nat × Operand)} {z : AVal} {n s : Nat} {ag : Bool} {v : AVal} (ho : o.op = .build t parts) (hz : zeroA P t = some z) (hf : arA P t = some (n, s, ag))
    (h : stepN (aeval nt T) (.build z.cells (parts.toList.map fun (i, x) => (i * s, s, x))) = some v) : OpN P nt o T v := by
  simp only [stepN] at h
  obtain ⟨cs, hcs, rfl⟩ := Option.map_eq_some_iff.1 h
  refine ⟨(fun c e => by rw [ho] at e; cases e), fun g a w he => ?_⟩
  obtain ⟨i, zv, hi, hzz, hb, hr⟩ := zeroA_spec hz
  obtain ⟨k1, k2, k3⟩ := (hr g).boxed hb
  obtain ⟨e, he1, he2⟩ := arA_spec hf
  obtain ⟨arr', h1, h2, h3⟩ := fill_rel (g := g) (a := a) (place := fun i => some (i * s, s)) parts.toList _ z.cells cs zv.cells (by simp) (fun j p r e f => by
    rw [List.getElem?_map, e] at f
    simp only [Option.map_some, Option.some.injEq] at f
    subst f; exact ⟨rfl, rfl⟩) (fun p hp => he p.2 (by rw [ho]; simp only [Op.operands]; simp; exact ⟨p.1, by simpa using hp⟩)) k1 k3 hcs
  refine ⟨.agg arr', .agg _ _ h2 (fun i c e => (h3 i c e).1) (fun i c e => (h3 i c e).2), ?_⟩
  have hfill : Instr.fill (fun i => some (i * s, s)) zv.cells (parts.map fun (i, x) => (i, a.eval x)).toList = some arr' := by
    rw [Array.toList_map]; exact h1
  simp only [execOp, ho, Instr.build, zeroValue, typeInfo, Sem.run_bind, Sem.run_pure, Result.andThen_ok, run_underlying he1]
  simp only [program, Sem.run, hi, hzz, Sem.run_pure, Result.andThen_ok, Sem.run_bind, (run_tyA he2 w).2, hfill]
end
end Go.Proofs.YtennhanlcbibaaaGreatDoor.Lb

