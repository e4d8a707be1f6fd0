/- This file holds in one the texts Bf4; each says at its head what it proves. -/
import Derived.Test.YtjakoidjbcnhbaaGreatDoorT34
set_option linter.unusedSimpArgs false
set_option linter.unusedVariables false
section
/- The machine for closed laws, reckoned quickly, part 4: an operation. -/
namespace Go.AM.BM

def RO (n : Nat) : FO → Out → Prop
  | .no, _ => True
  | .nrm T F, o => ∃ t H, o = some (.normal, t, H) ∧ RT n T t ∧ RH F H
  | .exi i T F, o => ∃ t H, o = some (.exit i, t, H) ∧ RT n T t ∧ RH F H
  | .ret T F, o => ∃ t H, o = some (.ret, t, H) ∧ RT n T t ∧ RH F H
  | .pan v T F, o => ∃ t H, o = some (.panic v, t, H) ∧ RT n T t ∧ RH F H
def RR : FR → Option (Rt × Heap) → Prop
  | .no, _ => True
  | .ret v F, o => ∃ H, o = some (.ret v, H) ∧ RH F H
  | .pan v F, o => ∃ H, o = some (.pan v, H) ∧ RH F H
def RC (cc : FC) (C : Call) : Prop := ∀ f args F H, RH F H → RR (cc f args F) (C f args H)

def Sub {α : Type} (no x y : α) : Prop := x = no ∨ x = y
theorem Sub.refl {α : Type} {no : α} (x : α) : Sub no x x := .inr rfl

/-! ### The parts, by cases -/
theorem optK_none (k : V → FO) : optK none k = .no := rfl
theorem optK_some (v : V) (k : V → FO) : optK (some v) k = k v := rfl
theorem nthV_eq : ∀ (l : List V) (i : Nat), nthV l i = l[i]?
  | [], i => rfl
  | x :: l, 0 => rfl
  | x :: l, i + 1 => by
    show nthV l i = _
    rw [nthV_eq l i]; rfl
theorem setV_eq : ∀ (l : List V) (i : Nat) (v : V), setV l i v = l.set i v
  | [], i, v => rfl
  | x :: l, 0, v => rfl
  | x :: l, i + 1, v => by
    show x :: setV l i v = _
    rw [setV_eq l i v]; rfl
theorem set_splice (l : List V) (i : Nat) (v : V) (h : i < l.length) : l.set i v = splice l i [v] := by
  induction l generalizing i with
  | nil => simp at h
  | cons x l ih =>
    cases i with
    | zero => simp [splice]
    | succ i =>
      simp only [List.length_cons] at h
      simp only [List.set_cons_succ, ih i (by omega), splice]
      simp
theorem oCells_eq {R : Type} (o : Option O) (k : List V → R) (e : R) : oCells o k e = match o with
    | some (.cells xs) => k xs
    | _ => e := by
  cases o with
  | none => rfl
  | some o => cases o <;> rfl
theorem vPtr_eq {R : Type} (v : V) (kp : Nat → Nat → Nat → R) (ki kr : List V → Nat → R) (e : R) : vPtr v kp ki kr e = match v with
    | .ptr f s o => kp f s o
    | .iptr cs o => ki cs o
    | .rptr cs o => kr cs o
    | _ => e := by cases v <;> rfl
theorem vInt_eq {R : Type} (v : V) (k : IntKind → Int → R) (e : R) : vInt v k e = match v with
    | .int a m => k a m
    | _ => e := by cases v <;> rfl
theorem vAgg_eq {R : Type} (v : V) (k : List V → R) (e : R) : vAgg v k e = match v with
    | .agg cs => k cs
    | _ => e := by cases v <;> rfl
theorem vTup_eq {R : Type} (v : V) (k : List V → R) (e : R) : vTup v k e = match v with
    | .tuple cs => k cs
    | _ => e := by cases v <;> rfl
theorem vBool_eq {R : Type} (v : V) (a b e : R) : vBool v a b e = match v with
    | .bool t => if t then a else b
    | _ => e := by
  cases v with
  | bool t => cases t <;> rfl
  | _ => rfl
theorem kindN_eq (a b : IntKind) : Nat.beq (kindN a) (kindN b) = decide (a = b) := by
  cases a <;> cases b <;> rfl
theorem natsK_eq {R : Type} (m l : Int) (k : Nat → Nat → R) (e : R) (x : Int → Int → R) (h : ∀ a b : Nat, m = a → l = b → k a b = x m l) (he : e = x m l) : natsK m l k e = x m l := by
  cases m with
  | ofNat a => cases l with
    | ofNat b => exact h a b rfl rfl
    | negSucc b => exact he
  | negSucc a => exact he
theorem wrapN_eq (k : IntKind) (m : Nat) : wrapN k m = k.wrap (m : Int) := by
  have hu : ∀ (n : Nat), (Int.ofNat (Nat.mod m n)) = (m : Int) % (n : Int) := fun n => (Int.natCast_emod m n)
  cases k with
  | i64 =>
    show Bool.rec (motive := fun _ => Int) (IntKind.i64.wrap (Int.ofNat m)) (Int.ofNat m) (Nat.ble m (nat_lit 9223372036854775807)) = _
    cases h : Nat.ble m (nat_lit 9223372036854775807) with
    | false => rfl
    | true =>
      have h1 : m ≤ 9223372036854775807 := Nat.le_of_ble_eq_true h
      show (m : Int) = _
      have e : (m : Int) % (2 ^ 64 : Int) = m := by omega
      simp only [IntKind.wrap, IntKind.bits, IntKind.signed, Bool.true_and, e]
      rw [if_neg]
      simp only [decide_eq_true_eq]
      omega
  | u8 => exact hu 256
  | u16 => exact hu 65536
  | u32 => exact hu 4294967296
  | u64 => exact hu 18446744073709551616
  | i8 => rfl
  | i16 => rfl
  | i32 => rfl
theorem addI_eq (k : IntKind) (m l : Int) : addI k m l = k.wrap (m + l) := by
  refine natsK_eq m l _ _ (fun m l => k.wrap (m + l)) ?_ rfl
  rintro a b rfl rfl
  rw [wrapN_eq]; rfl
theorem subI_eq (k : IntKind) (m l : Int) : subI k m l = k.wrap (m - l) := by
  refine natsK_eq m l _ _ (fun m l => k.wrap (m - l)) ?_ rfl
  rintro a b rfl rfl
  cases h : Nat.ble b a with
  | false => rfl
  | true =>
    have := Nat.le_of_ble_eq_true h
    show wrapN k (a - b) = _
    rw [wrapN_eq]
    congr 1
    omega
theorem ltI_eq (m l : Int) : ltI m l = decide (m < l) := by
  refine natsK_eq m l _ _ (fun m l => decide (m < l)) ?_ rfl
  rintro a b rfl rfl
  cases h : Nat.ble (Nat.succ a) b with
  | true => have := Nat.le_of_ble_eq_true h; symm; exact decide_eq_true (by omega)
  | false =>
    symm
    apply decide_eq_false
    intro e
    have : Nat.ble (Nat.succ a) b = true := Nat.ble_eq_true_of_le (by omega)
    rw [this] at h; cases h
theorem leI_eq (m l : Int) : leI m l = decide (m ≤ l) := by
  refine natsK_eq m l _ _ (fun m l => decide (m ≤ l)) ?_ rfl
  rintro a b rfl rfl
  cases h : Nat.ble a b with
  | true => have := Nat.le_of_ble_eq_true h; symm; exact decide_eq_true (by omega)
  | false =>
    symm
    apply decide_eq_false
    intro e
    have : Nat.ble a b = true := Nat.ble_eq_true_of_le (by omega)
    rw [this] at h; cases h
theorem eqI_eq (m l : Int) : eqI m l = (m == l) := by
  have : (m == l) = decide (m = l) := by by_cases h : m = l <;> simp [h]
  rw [this]
  refine natsK_eq m l _ _ (fun m l => decide (m = l)) ?_ rfl
  rintro a b rfl rfl
  cases h : Nat.beq a b with
  | true => have := Nat.eq_of_beq_eq_true h; symm; exact decide_eq_true (by omega)
  | false =>
    have := Nat.ne_of_beq_eq_false h
    symm
    exact decide_eq_false (by omega)
theorem convI_eq (k : IntKind) (m : Int) : convI k m = k.wrap m := by
  cases m with
  | ofNat a => exact wrapN_eq k a
  | negSucc a => rfl

section
variable {P : Program} {pol : Pol} {n : Nat}

theorem gen_val {o : Op} {dst : Option Nat} {cc : FC} {nm : Nat} {k : KT} {T : TM} {F : FH} {x : Option V} (h : evX P (getF F) (fun x => (cR n x).f T) nm o = aVal x)
    (hm : x = none → moreOp P (getF F) (fun x => (cR n x).f T) nm o = none) : optK x (fun v => k ((cP n dst).f T v) F) = (cGen P pol n dst o).f cc nm k T F := by
  simp only [cGen, h, aVal]
  cases x with
  | none => simp only [Option.map_none, stepK, hm rfl, optK_none]
  | some v => rfl

theorem more_of {o : Op} {g : Get} {r : Operand → V} {nm : Nat} (h : ∀ c, o ≠ .call c) : moreOp P g r nm o = none := by
  unfold moreOp
  split
  · rename_i c; exact absurd rfl (h c)
  · rfl

theorem cMove_ok (dst : Option Nat) (x : Operand) (cc : FC) (nm : Nat) (k : KT) (T : TM) (F : FH) : (cMove n dst x).f cc nm k T F = (cGen P pol n dst (.move x)).f cc nm k T F := rfl
theorem cMove_ok' (dst : Option Nat) (x : Operand) (cc : FC) (nm : Nat) (k : KT) (T : TM) (F : FH) : (cMove n dst x).f cc nm k T F = (cGen P pol n dst (.assign x)).f cc nm k T F := rfl
theorem cPick_ok (dst : Option Nat) (c a b : Operand) (cc : FC) (nm : Nat) (k : KT) (T : TM) (F : FH) : (cPick n dst c a b).f cc nm k T F = (cGen P pol n dst (.pick c a b)).f cc nm k T F := by
  simp only [cPick, boolK, vBool_eq, cGen, evX, aPick]
  cases (cR n c).f T with
  | bool t => cases t <;> rfl
  | _ => rfl
theorem cNil_ok (dst : Option Nat) (x : Operand) (cc : FC) (nm : Nat) (k : KT) (T : TM) (F : FH) : (cNil n dst x).f cc nm k T F = (cGen P pol n dst (.nilCheck x)).f cc nm k T F :=
  gen_val (x := ncV ((cR n x).f T)) rfl (fun _ => rfl)
theorem cUnOp_ok (dst : Option Nat) (op : UnOp) (t : TypeId) (x : Operand) (cc : FC) (nm : Nat) (k : KT) (T : TM) (F : FH) : (cUnOp n dst op x).f cc nm k T F = (cGen P pol n dst (.unOp op t x)).f cc nm k T F :=
  gen_val (x := unV op ((cR n x).f T)) rfl (fun _ => rfl)
theorem intsK_eq (x y : V) (k : IntKind → Int → Int → Option V) (e : Option V) (h : ∀ a m l, x = .int a m → y = .int a l → k a m l = e) (h2 : ∀ a b m l, x = .int a m → y = .int b l → a ≠ b → e = none) : intsK x y k e = e := by
  simp only [intsK, vInt_eq]
  cases x with
  | int a m =>
    cases y with
    | int b l =>
      simp only [kindN_eq]
      by_cases c : a = b
      · subst c
        simp only [decide_true]
        exact h a m l rfl rfl
      · simp only [c, decide_false]
        exact (h2 a b m l rfl rfl c).symm
    | _ => rfl
  | _ => rfl
theorem cBin_eq (op : BinOp) (t : TypeId) (x y : Operand) (a b : V) : (cBin P op t x y).f a b = binV P op t x y a b := by
  have no : ∀ (c d : IntKind) (m l : Int), a = .int c m → b = .int d l → c ≠ d → op ≠ .shl → op ≠ .shr → binV P op t x y a b = none := by
    rintro c d m l rfl rfl h h1 h2
    cases op <;> first | exact absurd rfl h1 | exact absurd rfl h2 | simp [binV, h]
  have yes : ∀ (c : IntKind) (m l : Int), a = .int c m → b = .int c l → op ≠ .shl → op ≠ .shr → binV P op t x y a b = binI op c m l := by
    rintro c m l rfl rfl h1 h2
    cases op <;> first | exact absurd rfl h1 | exact absurd rfl h2 | simp [binV]
  cases op <;> simp only [cBin]
  case add => exact intsK_eq a b _ _ (fun c m l h1 h2 => by rw [yes c m l h1 h2 (by simp) (by simp), addI_eq]; rfl) (fun c d m l h1 h2 h => no c d m l h1 h2 h (by simp) (by simp))
  case sub => exact intsK_eq a b _ _ (fun c m l h1 h2 => by rw [yes c m l h1 h2 (by simp) (by simp), subI_eq]; rfl) (fun c d m l h1 h2 h => no c d m l h1 h2 h (by simp) (by simp))
  case eql => exact intsK_eq a b _ _ (fun c m l h1 h2 => by rw [yes c m l h1 h2 (by simp) (by simp), eqI_eq]; rfl) (fun c d m l h1 h2 h => no c d m l h1 h2 h (by simp) (by simp))
  case neq => exact intsK_eq a b _ _ (fun c m l h1 h2 => by rw [yes c m l h1 h2 (by simp) (by simp), eqI_eq]; simp only [binI, bne]; cases (m == l) <;> rfl) (fun c d m l h1 h2 h => no c d m l h1 h2 h (by simp) (by simp))
  case lss => exact intsK_eq a b _ _ (fun c m l h1 h2 => by rw [yes c m l h1 h2 (by simp) (by simp), ltI_eq]; rfl) (fun c d m l h1 h2 h => no c d m l h1 h2 h (by simp) (by simp))
  case leq => exact intsK_eq a b _ _ (fun c m l h1 h2 => by rw [yes c m l h1 h2 (by simp) (by simp), leI_eq]; rfl) (fun c d m l h1 h2 h => no c d m l h1 h2 h (by simp) (by simp))
  case gtr => exact intsK_eq a b _ _ (fun c m l h1 h2 => by rw [yes c m l h1 h2 (by simp) (by simp), ltI_eq]; rfl) (fun c d m l h1 h2 h => no c d m l h1 h2 h (by simp) (by simp))
  case geq => exact intsK_eq a b _ _ (fun c m l h1 h2 => by rw [yes c m l h1 h2 (by simp) (by simp), leI_eq]; rfl) (fun c d m l h1 h2 h => no c d m l h1 h2 h (by simp) (by simp))
theorem cBinOp_ok (dst : Option Nat) (op : BinOp) (t u : TypeId) (x y : Operand) (cc : FC) (nm : Nat) (k : KT) (T : TM) (F : FH) : (cBinOp P n dst op t x y).f cc nm k T F = (cGen P pol n dst (.binOp op t x y u)).f cc nm k T F := by
  simp only [cBinOp, cBin_eq]
  exact gen_val (x := binV P op t x y ((cR n x).f T) ((cR n y).f T)) rfl (fun _ => rfl)
theorem cExtract_ok (dst : Option Nat) (t : Operand) (i : Nat) (cc : FC) (nm : Nat) (k : KT) (T : TM) (F : FH) : (cExtract n dst t i).f cc nm k T F = (cGen P pol n dst (.extract t i)).f cc nm k T F := by
  refine gen_val (x := tupO ((cR n t).f T) i) ?_ (fun _ => rfl)
  simp only [evX, aExtract, tupO, vTup_eq, aVal]
  cases (cR n t).f T with
  | tuple vs => simp only [nthV_eq]
  | _ => rfl

theorem cAlloc_ok (chk : Bool) (dst : Option Nat) (t : TypeId) (cc : FC) (nm : Nat) (k : KT) (T : TM) (F : FH) (hf : chk = false → F.tr.get nm = none) :
    (cAlloc P n chk dst t).f cc nm k T F = (cGen P pol n dst (.alloc t)).f cc nm k T F := by
  simp only [cAlloc, cGen, evX, aAlloc]
  cases zeroCells P t with
  | none => rfl
  | some z =>
    simp only [Option.bind_some, new, newK, getF]
    cases chk with
    | false =>
      have := hf rfl
      simp only [this]
      rfl
    | true =>
      cases h : F.tr.get nm with
      | none => rfl
      | some o => rfl

theorem cRead_eq (t : TypeId) (xs : List V) (o : Nat) : (cRead P t).f xs o = readAt P t xs o := by
  simp only [cRead, readAt]
  cases P.underlying t with
  | none => rfl
  | some dd =>
    cases sz P t with
    | none => rfl
    | some m =>
      simp only
      cases aggD dd with
      | false => simp only [cond_false, nthV_eq, Bool.false_eq_true, if_false]
      | true =>
        simp only [cond_true, if_true]
        by_cases h : o + m ≤ xs.length
        · rw [if_pos h, Nat.ble_eq_true_of_le h]; rfl
        · have : Nat.ble (o + m) xs.length = false := by
            rw [Bool.eq_false_iff]; intro e; exact h (Nat.le_of_ble_eq_true e)
          rw [if_neg h, this]; rfl
theorem cLoad_ok (dst : Option Nat) (t : TypeId) (a : Operand) (cc : FC) (nm : Nat) (k : KT) (T : TM) (F : FH) : (cLoad P n dst t a).f cc nm k T F = (cGen P pol n dst (.load t a)).f cc nm k T F := by
  simp only [cLoad, loadK, vPtr_eq, oCells_eq, cGen, evX, aLoad, more_of (P := P) (o := .load t a) (by simp), cRead_eq]
  cases (cR n a).f T with
  | ptr f s o =>
    simp only
    cases getF F f s with
    | none => rfl
    | some q =>
      cases q with
      | cells xs =>
        simp only
        cases readAt P t xs o <;> rfl
      | _ => rfl
  | iptr cs o => simp only; cases readAt P t cs o <;> rfl
  | rptr cs o => simp only; cases readAt P t cs o <;> rfl
  | _ => rfl

theorem brec_true {α : Type} {x y : α} {b : Bool} (h : b = true) : Bool.rec (motive := fun _ => α) x y b = y := by subst h; rfl
theorem brec_false {α : Type} {x y : α} {b : Bool} (h : b = false) : Bool.rec (motive := fun _ => α) x y b = x := by subst h; rfl
theorem brec_eq {α : Type} (x y : α) (b : Bool) : Bool.rec (motive := fun _ => α) x y b = if b then y else x := by cases b <;> rfl
theorem vCells_eq {R : Type} (v : V) (k1 : R) (kc : List V → R) (e : R) : vCells v k1 kc e = match v with
    | .agg cs => if cs.all V.scalar then kc cs else e
    | .bad | .tuple _ => e
    | _ => k1 := by
  cases v with
  | agg cs => exact brec_eq _ _ _
  | _ => rfl
theorem cStore_ok (dst : Option Nat) (t : TypeId) (a x : Operand) (cc : FC) (nm : Nat) (k : KT) (T : TM) (F : FH) : (cStore P n dst t a x).f cc nm k T F = (cGen P pol n dst (.store t a x)).f cc nm k T F := by
  simp only [cStore, cGen, evX, aStore, more_of (P := P) (o := .store t a x) (by simp)]
  cases sz P t with
  | none =>
    simp only
    cases (cR n a).f T with
    | ptr f s o => cases ((cR n x).f T).cells <;> rfl
    | _ => rfl
  | some m =>
    simp only [storeK, vPtr_eq]
    cases (cR n a).f T with
    | ptr f s o =>
      simp only [vCells_eq]
      have one : ∀ v : V, v.cells = some [v] → (oCells (getF F f s) (fun xs => Bool.rec (motive := fun _ => FO) .no (Option.rec (motive := fun _ => FO) .no (fun _ => k ((cP n dst).f T .bad) (wrF F (some (f, s, .cells (setV xs o v))))) (nthV xs o)) (Nat.beq m (nat_lit 1))) .no) =
          stepK pol (match V.ptr f s o, v.cells, some m with
            | .ptr f s o, some cs, some n => (match getF F f s with
              | some (.cells xs) => if cs.length = n ∧ o + n ≤ xs.length then some (.val .bad (some (f, s, .cells (splice xs o cs)))) else none
              | _ => none)
            | _, _, _ => none) none cc (fun v F => k ((cP n dst).f T v) F) T F := by
        intro v hv
        simp only [hv, oCells_eq]
        cases getF F f s with
        | none => rfl
        | some q =>
          cases q with
          | cells xs =>
            simp only [brec_eq, nthV_eq, setV_eq]
            by_cases h : m = 1
            · subst h
              by_cases h2 : o < xs.length
              · rw [List.getElem?_eq_getElem h2, if_pos (show Nat.beq 1 1 = true from rfl), if_pos ⟨rfl, h2⟩, set_splice _ _ _ h2]; rfl
              · rw [List.getElem?_eq_none (by omega), if_pos (show Nat.beq 1 1 = true from rfl), if_neg (fun e => h2 e.2)]; rfl
            · have : Nat.beq m 1 = false := by rw [Bool.eq_false_iff]; intro e; exact h (Nat.eq_of_beq_eq_true e)
              show (if Nat.beq m 1 = true then _ else FO.no) = _
              rw [this, if_neg (by simp), if_neg (fun e => h (by simpa using e.1.symm))]; rfl
          | _ => rfl
      cases (cR n x).f T with
      | bad => rfl
      | tuple l => rfl
      | agg cs =>
        simp only [V.cells]
        by_cases hs : cs.all V.scalar
        · simp only [hs, if_true, oCells_eq]
          cases getF F f s with
          | none => rfl
          | some q =>
            cases q with
            | cells xs =>
              simp only [brec_eq]
              by_cases h : cs.length = m
              · have e : Nat.beq cs.length m = true := by rw [h]; exact Nat.beq_refl m
                by_cases h2 : o + m ≤ xs.length
                · have e2 : Nat.ble (Nat.add o m) xs.length = true := Nat.ble_eq_true_of_le h2
                  rw [e, e2, if_pos rfl, if_pos rfl, if_pos ⟨h, h2⟩]; rfl
                · have e2 : Nat.ble (Nat.add o m) xs.length = false := by rw [Bool.eq_false_iff]; intro q; exact h2 (Nat.le_of_ble_eq_true q)
                  rw [e, e2, if_pos rfl, if_neg (by simp), if_neg (fun q => h2 q.2)]; rfl
              · have e : Nat.beq cs.length m = false := by rw [Bool.eq_false_iff]; intro q; exact h (Nat.eq_of_beq_eq_true q)
                rw [e, if_neg (by simp), if_neg (fun q => h q.1)]; rfl
            | _ => rfl
        · simp only [hs, if_false, Bool.false_eq_true]; rfl
      | _ => exact one _ rfl
    | _ => rfl

theorem cFieldAddr_ok (dst : Option Nat) (t : TypeId) (x : Operand) (i : Nat) (cc : FC) (nm : Nat) (k : KT) (T : TM) (F : FH) : (cFieldAddr P n dst t x i).f cc nm k T F = (cGen P pol n dst (.fieldAddr t x i)).f cc nm k T F := by
  simp only [cFieldAddr, cGen, evX, aFieldAddr, more_of (P := P) (o := .fieldAddr t x i) (by simp)]
  cases P.underlying t with
  | none => rfl
  | some dd =>
    cases dd with
    | struct fs =>
      simp only
      cases fs[i]? with
      | none => rfl
      | some f =>
        simp only
        cases sz P f.type with
        | none => rfl
        | some m =>
          simp only
          by_cases h : m = 0
          · subst h; rfl
          · have e : Nat.beq m 0 = false := by rw [Bool.eq_false_iff]; intro q; exact h (Nat.eq_of_beq_eq_true q)
            rw [e, if_neg h]
            simp only [cond_false, offV, vPtr_eq]
            cases (cR n x).f T <;> rfl
    | _ => rfl
theorem cPart_eq (t : TypeId) (xs : List V) (o : Nat) : (cPart P t).f xs o = partV P t xs o := by
  simp only [cPart, partV]
  cases P.underlying t with
  | none => rfl
  | some dd =>
    cases sz P t with
    | none => rfl
    | some m =>
      simp only
      cases aggD dd with
      | false => simp only [cond_false, nthV_eq, Bool.false_eq_true, if_false]
      | true => rfl
theorem cField_ok (dst : Option Nat) (t : TypeId) (x : Operand) (i : Nat) (cc : FC) (nm : Nat) (k : KT) (T : TM) (F : FH) : (cField P n dst t x i).f cc nm k T F = (cGen P pol n dst (.field t x i)).f cc nm k T F := by
  simp only [cField, cGen, evX, aField, more_of (P := P) (o := .field t x i) (by simp)]
  cases P.underlying t with
  | none => rfl
  | some dd =>
    cases dd with
    | struct fs =>
      simp only
      cases hf : fs[i]? with
      | none =>
        simp only
        cases (cR n x).f T <;> first | rfl | (simp only [hf]; rfl)
      | some f =>
        simp only [aggO, vAgg_eq, cPart_eq]
        cases (cR n x).f T with
        | agg cs =>
          simp only [hf]
          cases partV P f.type cs f.offset <;> rfl
        | _ => rfl
    | _ => rfl
end
end Go.AM.BM
end
