/- This file holds in one the texts D8, D9, DT, DU, DW; each says at its head what it proves. -/
import Derived.Test.YteagpfbdmiihaaaGreatDoorT20
import Derived.Test.YteagpfbdmiihaaaGreatDoorT27
import Derived.Test.YteagpfbdmiihaaaGreatDoorT28
import Derived.Test.YteagpfbdmiihaaaGreatDoorT32
set_option linter.unusedSimpArgs false
set_option linter.unusedVariables false
namespace Go.Proofs.YteagpfbdmiihaaaGreatDoor
section
set_option maxRecDepth 100000
open Go.AM
attribute [local irreducible] U W
def ent (x : Int × V) : V × V := (.int .i64 x.1, .agg [.int .i64 x.1, x.2])
def Qaf : List (Int × V) -> Int -> V -> List (Int × V)
 | [], k, v => [(k, v)]
 | (k', v') :: r, k, v => if k = k' then (k, v) :: r else (k', v') :: Qaf r k v
theorem Q4e (k : Int) (v : V) : ∀ (L : List (Int × V)) (i0 : Nat),
 (∃ j x, findKey (.int .i64 k) (L.map ent) i0 = some (some (i0 + j, x)) /\ (L.map ent).set j (ent (k, v)) = (Qaf L k v).map ent /\ (Qaf L k v).length = L.length) \/
 (findKey (.int .i64 k) (L.map ent) i0 = some none /\ L.map ent ++ [ent (k, v)] = (Qaf L k v).map ent /\ (Qaf L k v).length = L.length + 1)
 | [], i0 => .inr ⟨rfl, rfl, rfl⟩
 | (k', v') :: r, i0 => by
   have e : findKey (.int .i64 k) (((k', v') :: r).map ent) i0 = (match (if (k == k') then some true else some false : Option Bool) with
    | some true => some (some (i0, (ent (k', v')).2))
    | some false => findKey (.int .i64 k) (r.map ent) (i0 + 1)
    | none => none) := by
    show (match (if IntKind.i64 = IntKind.i64 then some (k == k') else none : Option Bool) with
    | some true => some (some (i0, (ent (k', v')).2))
    | some false => findKey (.int .i64 k) (r.map ent) (i0 + 1)
    | none => none) = _
    rw [if_pos rfl]
    cases (k == k') <;> rfl
   rw [e]
   by_cases h : k = k'
   . subst h
     refine .inl ⟨0, _, by simp; rfl, ?_, ?_⟩
     . simp [Qaf]
     . simp [Qaf]
   . have hb : (k == k') = false := by simp [h]
     rw [hb]
     simp only [Zkz, if_false, Qaf, h]
     rcases Q4e k v r (i0 + 1) with ⟨j, x, h1, h2, h3⟩ | ⟨h1, h2, h3⟩
     . refine .inl ⟨j + 1, x, by rw [h1]; congr 3; omega, ?_, ?_⟩
       . simp only [Zlh, List.set_cons_succ, h2]
       . simp only [Zld, h3]
     . exact .inr ⟨h1, by simp only [Zlh, Zmj, h2], by simp only [Zld, h3]⟩
def Qht (L : List (Int × V)) : O := .map (L.map ent) (List.range L.length) L.length
theorem upd_L {g : Get} {f s : Nat} {L : List (Int × V)} (k : Int) (v : V) (hg : g f s = some (Qht L)) :
 updateV Tryz.prog g 291 (.map f s) (.int .i64 k) (.agg [.int .i64 k, v]) = some (.val .bad (some (f, s, Qht (Qaf L k v)))) := by
 have hk : Y4 (.int .i64) (.int .i64 k) = true := rfl
 unfold Qht at hg
 simp only [updateV, Tryz.underlying291, Tryz.underlying3, hk, if_true, hg]
 rcases Q4e k v L 0 with ⟨j, x, h1, h2, h3⟩ | ⟨h1, h2, h3⟩
 . simp only [h1, Zk7]
   unfold Qht
   rw [h3, <- h2]; rfl
 . simp only [h1]
   unfold Qht
   rw [h3, <- h2, Zno]; rfl
def Xh (a : Nat -> Int) (dv : Nat -> V) : Nat -> List (Int × V)
 | 0 => []
 | i + 1 => Qaf (Xh a dv i) (a i) (dv i)
theorem all_fz (i : Int) : Fz Tryz.prog Qz 120 [.int .i64 i] fun x => x = .bool true := by
 refine Jy Tryz.func120 rfl ?_
 simp only [Qn, Qh, Qg, Ql, Qa, Qd, nov, gd, rho, Qe, wr, simprocAttr, Qj, ↓Qi, Tryz.ntmps120]
 exact W.done (Zx.ret rfl rfl rfl)
def laF (bv wv : V) (L : List (Int × V)) : AM.Frame := [(2, .cells [bv, wv]), (8, Qht L)]
def laF' (bv wv : V) (y : List V) (L : List (Int × V)) : AM.Frame := [(2, .cells [bv, wv]), (7, .cells y), (8, Qht L)]
theorem Q1c {cs : List V} {n i : Nat} {a : Int} {x : V} (h : i < n) (hl : cs.length = n * 2) (e1 : cs[2 * i]? = some (.int .i64 a)) (e2 : cs[2 * i + 1]? = some x) :
 Q0 Tryz.prog 213 cs ((i : Int).toNat * 2) = some (.agg [.int .i64 a, x]) := by
 have e : (i : Int).toNat * 2 = 2 * i := by omega
 rw [e, Q2o, if_pos (by omega)]
 obtain ⟨l1, g1⟩ := Zl7.1 e1
 obtain ⟨l2, g2⟩ := Zl7.1 e2
 rw [Znm l1, Zmz, Znm l2, Zmz, List.take_zero, g1, g2]
theorem Qf1 : ∀ (L : List (Int × V)) (k : Int) (v : V) (x : Int × V), x ∈ Qaf L k v -> x = (k, v) \/ x ∈ L
 | [], k, v, x, h => .inl (by simpa [Qaf] using h)
 | (k', v') :: r, k, v, x, h => by
   simp only [Qaf] at h
   split at h
   . rcases Zli.1 h with rfl | h
     . exact .inl rfl
     . exact .inr (Zlk _ h)
   . rcases Zli.1 h with rfl | h
     . exact .inr (Zlj)
     . rcases Qf1 r k v x h with e | e
       . exact .inl e
       . exact .inr (Zlk _ e)
theorem Qp8 (a : Nat -> Int) (dv : Nat -> V) : ∀ (i : Nat) (x : Int × V), x ∈ Xh a dv i -> ∃ j, j < i /\ x.2 = dv j
 | 0, x, h => by cases h
 | i + 1, x, h => by
   rcases Qf1 _ _ _ _ h with rfl | h
   . exact ⟨i, by omega, rfl⟩
   . obtain ⟨j, hj, e⟩ := Qp8 a dv i x h
     exact ⟨j, by omega, e⟩
theorem Qp5 (p : Nat -> Nat -> Bool) (L : List (Int × V)) (h : ∀ x ∈ L, x.2.refs p = false) : (Qht L).refs p = false := by
 show Qfp p (L.map ent) = false
 induction L with
 | nil => rfl
 | cons x L ih =>
   have h1 := h x (by simp)
   have h2 := ih (fun y hy => h y (by simp [hy]))
   simp only [Zlh, Qfp, ent, V.refs, Qx, h1, h2]; rfl
theorem orc {p : Nat -> Nat -> Bool} {xs : List V} : (O.cells xs).refs p = Qx p xs := rfl
theorem Q39 (K : Heap) (hw : WF K) (bv wv : V) (hbs : bv.scalar = true) (hbr : bv.refs (fun f _ => Nat.ble K.length f) = false) (cs : List V) (n : Nat) (hv : Zq 2 wv cs n) (hn : n <= 4096) (a : Nat -> Int) (dv : Nat -> V)
 (hwait : ∀ j, j < n -> cs[2 * j]? = some (.int .i64 (a j)) /\ cs[2 * j + 1]? = some (dv j)) (hdv : ∀ j, j < n -> ∃ c fl, dv j = .iS c 256 fl) (sv : V) (hso : sv = .func (.func 120) [] [] \/ n = 0) (hsr : ∀ p, sv.refs p = false) :
 CW Tryz.prog Qz 217 [.agg [bv, wv], sv] K fun r K' => r = .ret (.map K.length 8) /\ K' = K ++ [laF bv wv (Xh a dv n)] := by
 refine Xk Tryz.func217 rfl ?_
 have lw := hv.len Tryz.underlying54
 have wsc : wv.scalar = true := Qiv hv
 simp only [Qn, Qh, Qg, Ql, Qa, Qd, nov, gd, rho, Qe, wr, simprocAttr, Qj, ↓Qi, Tryz.ntmps217, ta, new, Qm8, Qu, Qs, splice, zerosN, Qo, Qr, Qk, V.pure, Qq, hbs, wsc, lw, Tryz.underlying291]
 refine W.ul ?_
 refine W.loop (fun (i : Nat) t H => ∃ F : AM.Frame, Bi [1, 5, 10, 11, 12] t 0 = Qry sv (.map K.length 8) wv (.int .i64 n) (.int .i64 i) /\ i <= n /\ H = K ++ [F] /\ (F = laF bv wv (Xh a dv i) \/ ∃ y, F = laF' bv wv y (Xh a dv i)))
  (fun i => n - i) ?_ 0 ⟨_, rfl, by omega, rfl, .inl rfl⟩ rfl
 rintro i t H ⟨F, ht, hi, rfl, hF⟩
 have hd : (K ++ [F]).modify K.length (J8 fun s => [7].contains s) = K ++ [laF bv wv (Xh a dv i)] := by
  have := Qbz (J8 fun s => [7].contains s) K [F] 0
  refine this.trans ?_
  rcases hF with rfl | ⟨y, rfl⟩ <;> rfl
 have bvr : bv.refs (fun f s => f == K.length && [7].contains s) = false := Qam (fun f s h => by simp at h; simp; omega) bv hbr
 have wvr : wv.refs (fun f s => f == K.length && [7].contains s) = false := hv.noRefs _
 have mr : ∀ p : Nat -> Nat -> Bool, (Qht (Xh a dv i)).refs p = false := fun p => Qp5 p _ (fun x hx => by
  obtain ⟨j, hj, e⟩ := Qp8 a dv i x hx
  obtain ⟨c, fl, e2⟩ := hdv j (by omega)
  rw [e, e2]; rfl)
 refine ⟨_, _, J4 (kt := [1, 5, 10, 11, 12]) (ds := [7]) rfl ?_ ?_, ?_⟩
 . rw [ht]
   simp only [Qry, Qx, V.refs, wvr, hsr]; simp
 . rw [hd, Bg, Qfo hw (fun f s h => by simp at h; omega)]
   simp only [laF, Zh, Zo, orc, Qx, bvr, wvr, mr]; rfl
 rw [ht, hd]
 simp only [Qry]
 by_cases h : i < n
 . have c1 : decide ((i : Int) < n) = true := Znv (by omega)
   have w1 := B0 (i := i) (by omega)
   have hsv := hso.resolve_right (by omega)
   subst hsv
   obtain ⟨e1, e2⟩ := hwait i h
   have at1 := hv.at (k := .i64) Tryz.underlying54 Qnk (by decide) (i := (i : Int)) (by omega) (by omega)
   have ldw := Q1c h hv.1 e1 e2
   obtain ⟨m, rfl, hm⟩ := (all_fz (i : Int)).op (by rfl) rfl
   have hm' : ∀ s H, _ := fun s H => hm 217 K.length s H rfl
   have dsc : (dv i).scalar = true := by obtain ⟨c, fl, e⟩ := hdv i h; rw [e]; rfl
   have up := upd_L (g := Qb (K ++ [[(2, .cells [bv, wv]), (7, .cells [.int .i64 (a i), dv i]), (8, Qht (Xh a dv i))]])) (f := K.length) (s := 8) (L := Xh a dv i) (a i) (dv i) (by rw [Jv]; rfl)
   have eL : Qaf (Xh a dv i) (a i) (dv i) = Xh a dv (i + 1) := rfl
   rw [eL] at up
   simp only [laF]
   generalize hO : Qht (Xh a dv i) = O1 at up ⊢
   generalize hO2 : Qht (Xh a dv (i + 1)) = O2 at up
   simp only [Qn, Qh, Qg, Ql, Qa, Qd, nov, gd, rho, Qe, wr, simprocAttr, Qj, ↓Qi, c1, at1, ldw, ta, new, Qm8, Qu, Qs, splice, zerosN, Qo, Qr, Qk, V.pure, Qq, w1, hm', dsc, up]
   exact W.done ⟨i + 1, ⟨_, rfl, by omega, rfl, .inr ⟨_, by rw [<- hO2]; rfl⟩⟩, by omega⟩
 . have c1 : decide ((i : Int) < n) = false := Znw (by omega)
   have hi2 : i = n := by omega
   subst hi2
   simp only [Qn, Qh, Qg, Ql, Qa, Qd, nov, gd, rho, Qe, wr, simprocAttr, Qj, ↓Qi, c1]
   refine W.done ?_
   simp only [Qn, Qh, Qg, Ql, Qa, Qd, nov, gd, rho, Qe, wr, simprocAttr, Qj, ↓Qi]
   refine W.done (End.ret (v := .map K.length 8) rfl ?_)
   rw [Qat (by simp [V.refs])]
   exact ⟨rfl, rfl⟩
end
section
set_option maxRecDepth 100000
open Go.AM
attribute [local irreducible] U W
theorem Qwn (rv : List V) (fl : Bool) (hl : rv.length = 256) (hsc : rv.all V.scalar = true) :
 Q5 Tryz.prog Qz (some 47) [.iS rv 256 fl] [] = some (.ret (.mS 0 7 0 256 none 1), [[(5, .cells []), (7, .cells rv)]]) := by
 have key : CW Tryz.prog Qz 47 [.iS rv 256 fl] [] fun r K' => r = .ret (.mS 0 7 0 256 none 1) /\ K' = [[(5, .cells []), (7, .cells rv)]] := by
  refine Xk Tryz.func47 rfl ?_
  have nn := Qgq (P := Tryz.prog) (t := 53) Tryz.underlying53 (x := .tmp 3) (y := .const (.slice none 0 0)) (cs := rv) (n := 256) (f := fl)
  have mt5 : Qz.mt 47 5 = true := rfl
  have mt7 : Qz.mt 47 7 = true := rfl
  have sc : ∀ g, Qy g 1 (.iS rv 256 fl) = some (rv, 256) := fun g => by simp [Qy, hl]
  have ap : Zj Tryz.prog (Qz.mt 47) 0 (Qb [[(5, O.cells [])]]) (some 7) 53 53 (.mS 0 5 0 0 (some 0) 1) (.iS rv 256 fl) = some (.val (.mS 0 7 0 256 none 1) (some (0, 7, .cells rv))) := by
   have g5 : Qb [[(5, O.cells [])]] 0 5 = some (.cells []) := rfl
   have n7 : Qb [[(5, O.cells [])]] 0 7 = none := rfl
   simp only [Zj, Tryz.underlying53, Qjk, by27, zc25, Y8, sc, appendTo, g5]
   simp [grown, mt7, new, n7, hsc, Yw]
  simp only [Qn, Qh, Qg, Ql, Qa, Qd, nov, gd, rho, Qe, wr, simprocAttr, Tryz.ntmps47, nn, mt5, J9, ap, Tryz.underlying53, Qjk, zc25, new, Qb, hset, Qu, Qs, Qp, splice, zerosN, Qo, Qr, Qk, V.pure, Qq]
  refine W.done (End.ret (v := .mS 0 7 0 256 none 1) rfl ?_)
  have := Qat (b := 0) (H := [[(5, O.cells []), (7, .cells rv)]]) (v := .mS 0 7 0 256 none 1) (by simp [V.refs])
  exact ⟨rfl, this⟩
 obtain ⟨r, K', h, rfl, rfl⟩ := key
 exact h
theorem Q02 (rv : List V) (fl : Bool) (hl : rv.length = 256) (hsc : rv.all V.scalar = true) (hp : Qk rv = true) (fn fr d : Nat) (H : Heap) (hn : Qb H fr d = none) :
 callOp Qz (Q5 Tryz.prog Qz) fn fr (some d) 47 [.iS rv 256 fl] H = some (.ret (.mS fr d 0 256 none 1), hset H fr d (.cells rv)) := by
 have hc := Qwn rv fl hl hsc
 have a1 : Qz.prim 47 = none := rfl
 have a2 : Qz.pure fn 47 = false := rfl
 have a3 : Qz.lift fn 47 = true := rfl
 have fz : Zb (frz (fun _ _ => none) depth) [.iS rv 256 fl] = some [.iS rv 256 fl] := rfl
 have hg : Qb [[(5, O.cells []), (7, .cells rv)]] 0 7 = some (.cells rv) := rfl
 simp only [callOp, a1, a2, a3, Zkz, if_false, if_true, fz, hc, Qes, hn, hg, hp, Zkw, wr]
def lfF (wv : V) (c : List V) (N : Nat) (seen : List Nat) : AM.Frame := [(2, .cells [.mS 0 9 0 256 none 1, wv]), (4, .cells [.nS, .nS]), (9, .cells c), (16, .iter (some (1, 8)) N seen N)]
def lfF' (wv : V) (c : List V) (N : Nat) (seen : List Nat) (y : List V) : AM.Frame := [(2, .cells [.mS 0 9 0 256 none 1, wv]), (4, .cells [.nS, .nS]), (6, .cells y), (9, .cells c), (16, .iter (some (1, 8)) N seen N)]
theorem Qhw (a : Nat -> Int) (dv : Nat -> V) : ∀ (i : Nat) (x : Int × V), x ∈ Xh a dv i -> ∃ j, j < i /\ x = (a j, dv j)
 | 0, x, h => by cases h
 | i + 1, x, h => by
   rcases Qf1 _ _ _ _ h with rfl | h
   . exact ⟨i, by omega, rfl⟩
   . obtain ⟨j, hj, e⟩ := Qhw a dv i x h
     exact ⟨j, by omega, e⟩
theorem Qpr : ∀ (L : List (Int × V)) (k : Int) (v : V) (x : Int), x ∈ (Qaf L k v).map Prod.fst -> x = k \/ x ∈ L.map Prod.fst
 | [], k, v, x, h => .inl (by simpa [Qaf] using h)
 | (k', v') :: r, k, v, x, h => by
   simp only [Qaf] at h
   split at h
   . rename_i e; subst e; exact .inr h
   . simp only [Zlh, Zli] at h ⊢
     rcases h with h | h
     . exact .inr (.inl h)
     . rcases Qpr r k v x h with h | h
       . exact .inl h
       . exact .inr (.inr h)
theorem Qh7 : ∀ (L : List (Int × V)) (k : Int) (v : V), (L.map Prod.fst).Nodup -> ((Qaf L k v).map Prod.fst).Nodup
 | [], k, v, _ => by simp [Qaf]
 | (k', v') :: r, k, v, h => by
   simp only [Qaf]
   split
   . rename_i e; subst e; exact h
   . rename_i e
     simp only [Zlh, Zlp] at h ⊢
     refine ⟨fun hm => ?_, Qh7 r k v h.2⟩
     rcases Qpr r k v k' hm with h1 | h1
     . exact e h1.symm
     . exact h.1 h1
theorem Qfz (a : Nat -> Int) (dv : Nat -> V) : ∀ i, ((Xh a dv i).map Prod.fst).Nodup
 | 0 => by simp [Xh]
 | i + 1 => Qh7 _ _ _ (Qfz a dv i)
theorem Qml {L : List (Int × V)} (h : (L.map Prod.fst).Nodup) (b c : Nat) (k : Int) (v w : V) (h1 : L[b]? = some (k, v)) (h2 : L[c]? = some (k, w)) : b = c := by
 obtain ⟨l1, e1⟩ := Zl7.1 h1
 obtain ⟨l2, e2⟩ := Zl7.1 h2
 have q1 : (L.map Prod.fst)[b]? = some k := by rw [Znf, h1]; rfl
 have q2 : (L.map Prod.fst)[c]? = some k := by rw [Znf, h2]; rfl
 exact (List.getElem?_inj (by simpa using l1) h).1 (q1.trans q2.symm)
theorem Qps (p : Nat -> Nat -> Bool) (v : V) (hv : v.refs p = false) : ∀ (l : List V) (i : Nat), Qx p l = false -> Qx p (l.set i v) = false
 | [], i, _ => rfl
 | x :: l, 0, h => by simp only [Qx, Zm9] at h; simp only [List.set_cons_zero, Qx, hv, h.2, Bool.or_self]
 | x :: l, i + 1, h => by simp only [Qx, Zm9] at h; simp only [List.set_cons_succ, Qx, h.1, Qps p v hv l i h.2, Bool.or_self]
theorem Qfx (p : Nat -> Nat -> Bool) (L : List (Int × V)) (hL : ∀ (b : Nat) (k : Int) (v : V), L[b]? = some (k, v) -> v.refs p = false) : ∀ (seen : List Nat) (rv : List V), Qx p rv = false -> Qx p (Ja L seen rv) = false
 | [], rv, h => h
 | b :: seen, rv, h => by
   show Qx p (Ja L seen (Qca L rv b)) = false
   refine Qfx p L hL seen _ ?_
   unfold Qca
   split
   . rename_i k v hk
     exact Qps p v (hL b k v hk) rv _ h
   . exact h
theorem Qhr {rv : List V} {r : Nat -> List V} (hl : rv.length = 256) (hr : ∀ i, i < 256 -> ∃ f, rv[i]? = some (.iS (r i) 256 f)) (p : Nat -> Nat -> Bool) : Qx p rv = false := by
 have : ∀ l : List V, (∀ x ∈ l, x.refs p = false) -> Qx p l = false := by
  intro l
  induction l with
  | nil => intro _; rfl
  | cons x l ih => intro h; simp only [Qx, h x (by simp), ih (fun y hy => h y (by simp [hy])), Bool.or_self]
 refine this rv fun x hx => ?_
 obtain ⟨i, hi⟩ := Zl8.1 hx
 have : i < 256 := by rw [<- hl]; exact (Zl7.1 hi).1
 obtain ⟨f, hf⟩ := hr i this
 rw [hi] at hf; cases hf; rfl
theorem Q70 (rv : List V) (fl : Bool) (r : Nat -> List V) (hl : rv.length = 256) (hr : ∀ i, i < 256 -> ∃ f, rv[i]? = some (.iS (r i) 256 f)) (hrow : ∀ i, i < 256 -> Yf (r i)) (wv : V) (cs : List V) (n : Nat) (hv : Zq 2 wv cs n) (hn : n <= 4096) (a : Nat -> Int) (dv : Nat -> V)
 (hwait : ∀ j, j < n -> cs[2 * j]? = some (.int .i64 (a j)) /\ cs[2 * j + 1]? = some (dv j)) (ha : ∀ j, j < n -> 0 <= a j /\ a j < 256) (hdv : ∀ j, j < n -> ∃ c fl, dv j = .iS c 256 fl /\ Yf c)
 (r' : Nat -> List V) (hr' : ∀ i, i < 256 -> ∃ f, (Ja (Xh a dv n) (List.range (Xh a dv n).length) rv)[i]? = some (.iS (r' i) 256 f)) (hrow' : ∀ i, i < 256 -> Yf (r' i)) (sv : V) (hso : sv = .func (.func 120) [] [] \/ n = 0) (hsr : ∀ p, sv.refs p = false) :
 Fz Tryz.prog Qz 119 [.agg [.iS rv 256 fl, wv], sv] fun x => x = encD r' (fun _ => 0) (fun _ => []) 0 := by
 refine Jy Tryz.func119 rfl ?_
 have wsc : wv.scalar = true := Qiv hv
 have hsc : rv.all V.scalar = true := by
  rw [Zln]; intro x hx
  obtain ⟨i, hi⟩ := Zl8.1 hx
  have : i < 256 := by rw [<- hl]; exact (Zl7.1 hi).1
  obtain ⟨f, hf⟩ := hr i this
  rw [hi] at hf; cases hf; rfl
 have hpu : Qk rv = true := by
  have : ∀ l : List V, (∀ x ∈ l, x.pure = true) -> Qk l = true := by
   intro l
   induction l with
   | nil => intro _; rfl
   | cons x l ih => intro h; simp only [Qk, h x (by simp), ih (fun y hy => h y (by simp [hy])), Bool.and_self]
  refine this rv fun x hx => ?_
  obtain ⟨i, hi⟩ := Zl8.1 hx
  have : i < 256 := by rw [<- hl]; exact (Zl7.1 hi).1
  obtain ⟨f, hf⟩ := hr i this
  rw [hi] at hf; cases hf; rfl
 have cl := Q02 rv fl hl hsc hpu 119 0 9 [[(2, .cells [.iS rv 256 fl, wv]), (4, .cells [.nS, .nS])]] rfl
 have wcl := hv.cells1
 have hK1 : WF [[(2, O.cells [.mS 0 9 0 256 none 1, wv]), (4, .cells [.nS, .nS]), (9, .cells rv)]] := by
  have q : (fun f _ => Nat.ble 1 f) 0 9 = false := rfl
  have rr : Qx (fun f _ => Nat.ble 1 f) rv = false := Qhr hl hr _
  simp only [WF, Zh, Zo, orc, Qx, V.refs, hv.noRefs, rr, Zld, Zml]
  rfl
 obtain ⟨rr, KK, hlast, rfl, rfl⟩ := Q39 [[(2, .cells [.mS 0 9 0 256 none 1, wv]), (4, .cells [.nS, .nS]), (9, .cells rv)]] hK1 (.mS 0 9 0 256 none 1) wv rfl rfl cs n hv hn a dv hwait (fun j hj => by obtain ⟨c, f, e, _⟩ := hdv j hj; exact ⟨c, f, e⟩) sv hso hsr
 have hlast' : callOp Qz (Q5 Tryz.prog Qz) 119 0 (some 15) 217 [.agg [.mS 0 9 0 256 none 1, wv], sv] [[(2, .cells [.mS 0 9 0 256 none 1, wv]), (4, .cells [.nS, .nS]), (9, .cells rv)]] =
  some (.ret (.map 1 8), [[(2, .cells [.mS 0 9 0 256 none 1, wv]), (4, .cells [.nS, .nS]), (9, .cells rv)], laF (.mS 0 9 0 256 none 1) wv (Xh a dv n)]) := Kx rfl rfl rfl hlast
 generalize hL : Xh a dv n = L at hlast' hr' 
 have hLk : ∀ (b : Nat) (k : Int) (v : V), L[b]? = some (k, v) -> (0 <= k /\ k < 256) /\ ∃ c fl, v = .iS c 256 fl /\ Yf c := by
  intro b k v h
  rw [<- hL] at h
  obtain ⟨j, hj, e⟩ := Qhw a dv n (k, v) (List.mem_of_getElem? h)
  cases e
  exact ⟨ha j hj, hdv j hj⟩
 have hFr : ∀ p : Nat -> Nat -> Bool, p 0 9 = false -> Zo p (laF (.mS 0 9 0 256 none 1) wv L) = true := fun p hp => by
  have mr := Qp5 p L (fun x hx => by
   obtain ⟨b, hb⟩ := Zl8.1 hx
   obtain ⟨_, c, f, e, _⟩ := hLk b x.1 x.2 hb
   rw [e]; rfl)
  simp only [laF, Zo, orc, Qx, V.refs, hv.noRefs, mr, hp]
  rfl
 generalize hFL : laF (.mS 0 9 0 256 none 1) wv L = FL at hlast' hFr
 simp only [Qn, Qh, Qg, Ql, Qa, Qd, nov, gd, rho, Qe, wr, simprocAttr, Qj, ↓Qi, Tryz.ntmps119, ta, new, Qb, hset, Qu, Qs, Qp, splice, zerosN, Qo, Qr, Qk, V.pure, Qq, wsc, wcl, cl, hlast']
 refine W.opsT (by kernel_rfl) ?_
 have g8 : ∀ F : AM.Frame, Qb [F, FL] 1 8 = some (Qht L) := fun F => by rw [<- hFL]; rfl
 have rg : rangeV Tryz.prog (Qb [[(2, O.cells [.mS 0 9 0 256 none 1, wv]), (4, .cells [.nS, .nS]), (9, .cells rv)], FL]) 0 (some 16) 291 (.map 1 8) = some (.val (.ptr 0 16 0) (some (0, 16, .iter (some (1, 8)) L.length [] L.length))) := by
  have n16 : Qb [[(2, O.cells [.mS 0 9 0 256 none 1, wv]), (4, .cells [.nS, .nS]), (9, .cells rv)], FL] 0 16 = none := rfl
  simp only [rangeV, Tryz.underlying291, g8, Qht, new, n16]
 have lr : ∀ b ∈ List.range L.length, b < L.length := fun b hb => Zmr.1 hb
 simp only [Qn, Qh, Qg, Ql, Qa, Qd, nov, gd, rho, Qe, wr, simprocAttr, Qj, ↓Qi, Tryz.ntmps119, ta, new, Qb, hset, Qu, Qs, Qp, splice, zerosN, Qo, Qr, Qk, V.pure, Qq, wsc, wcl, cl, hlast', rg]
 refine W.ul ?_
 have hLd : ∀ (b c : Nat) (k : Int) (v w : V), L[b]? = some (k, v) -> L[c]? = some (k, w) -> b = c := by
  rw [<- hL]; exact Qml (Qfz a dv n)
 refine W.range (d := some 17) (k := _) rfl rfl (.exit 0, ((Qgl (.ptr 0 2 0) (.ptr 0 4 0) (.ptr 0 16 0)).set 17 (.tuple [.bool false])).set 18 (.bool false), [[(2, O.cells [.mS 0 9 0 256 none 1, wv]), (4, .cells [.nS, .nS]), (9, .cells (Ja L (List.range L.length) rv)), (16, .dead)], FL])
  (fun (seen : List Nat) t H => Bi [2, 4, 16] t 0 = Qgl (.ptr 0 2 0) (.ptr 0 4 0) (.ptr 0 16 0) /\ ∃ F, H = [F, FL] /\ (F = lfF wv (Ja L seen rv) L.length seen \/ ∃ y, F = lfF' wv (Ja L seen rv) L.length seen y))
  (fun seen => (Yy seen (L.map ent) (List.range L.length)).length) ?_ [] ⟨rfl, _, rfl, .inl rfl⟩ ?_
 . rintro seen t H ⟨ht, F, rfl, hF⟩
   have hd : [F, FL].modify 0 (J8 fun s => [6].contains s) = [lfF wv (Ja L seen rv) L.length seen, FL] := by
    rcases hF with rfl | ⟨y, rfl⟩ <;> rfl
   obtain ⟨cs, hcs, hall⟩ := Q12 (g := Qb [lfF wv (Ja L seen rv) L.length seen, FL]) (f := 0) (s := 16) rfl (g8 _) lr (Zk0 _)
   refine ⟨_, _, cs, J4 (kt := [2, 4, 16]) (ds := [6]) rfl ?_ ?_, ?_, fun d hd2 => ?_⟩
   . rw [ht]; simp [Qgl, Qx, V.refs]
   . rw [show ([F, FL].modify 0 (J8 fun s => [6].contains s)) = _ from hd]
     have yr : Qx (fun f s => f == 0 && [6].contains s) (Ja L seen rv) = false := by
      refine Qfx _ L (fun b k v h => ?_) seen rv (Qhr hl hr _)
      obtain ⟨_, c, f, e, _⟩ := hLk b k v h
      rw [e]; rfl
     simp only [lfF, Zh, hFr (fun f s => f == 0 && [6].contains s) rfl, Zo, orc, Qx, V.refs, hv.noRefs, yr]
     rfl
   . rw [ht]; rw [show ([F, FL].modify 0 (J8 fun s => [6].contains s)) = _ from hd]; exact hcs
   . rw [ht, hd]
     rcases hall d hd2 with ⟨hnil, rfl⟩ | ⟨⟨e, b⟩, he, rfl⟩
     . simp only [Qgl, lfF]
       have eA : Ja L seen rv = Ja L (List.range L.length) rv := by
        refine Qwr L hLd (fun b k v h => (hLk b k v h).1.1) seen (fun b hb => ?_) rv (fun b k v h => by have := (hLk b k v h).1; omega)
        rw [Zlf] at hnil
        have := Qqn seen (L.map ent) 0 (by rw [List.length_map]; exact hnil) b (by omega) (by rw [List.length_map]; omega)
        exact this
       rw [eA]
       simp only [Qn, Qh, Qg, Ql, Qa, Qd, nov, gd, rho, Qe, wr, simprocAttr, Qj, ↓Qi, new, Qb, hset, Qu, Qs, Qp, splice, zerosN, Qo, Qr, Qk, V.pure, Qq]
       exact W.done rfl
     . simp only [Qgl, lfF]
       have he2 := he
       rw [Zlf] at he2
       obtain ⟨_, hb1, hb2⟩ := Qp2 seen (L.map ent) 0 (e, b) (by rw [List.length_map]; exact he2)
       simp only [Nat.sub_zero, Znf] at hb1
       obtain ⟨⟨k, v⟩, hb3, rfl⟩ := Zmc.1 hb1
       obtain ⟨⟨k0, k1⟩, c, cf, rfl, hc⟩ := hLk b k v hb3
       have less := Qh9 seen ((ent (k, .iS c 256 cf)), b) _ _ he
       simp only [ent]
       have hA : (Ja L seen rv).length = 256 := by rw [Qav]; exact hl
       have eS := Qua L seen b rv k _ hb3
       have eB : Qbp b (L.map ent) (List.range L.length) = some (.int .i64 k, .agg [.int .i64 k, .iS c 256 cf]) := by
        have := Qmr b (L.map ent) 0 (by omega)
        rw [List.length_map, <- Zlf, Nat.sub_zero, Znf, hb3] at this
        exact this
       have gl : (seen ++ [b]).getLast? = some b := by simp
       generalize Ja L seen rv = y at hA eS ⊢
       have en : Qan (Qb [[(2, O.cells [.mS 0 9 0 256 none 1, wv]), (4, .cells [.nS, .nS]), (9, .cells y), (16, .iter (some (1, 8)) L.length (seen ++ [b]) L.length)], FL]) (.ptr 0 16 0) = some (.tuple [.int .i64 k, .agg [.int .i64 k, .iS c 256 cf]]) := by
        have n16 : Qb [[(2, O.cells [.mS 0 9 0 256 none 1, wv]), (4, .cells [.nS, .nS]), (9, .cells y), (16, .iter (some (1, 8)) L.length (seen ++ [b]) L.length)], FL] 0 16 = some (.iter (some (1, 8)) L.length (seen ++ [b]) L.length) := rfl
        simp only [Qan, n16, g8, Qht, gl, eB, if_true, Zkw]
       generalize eS2 : seen ++ [b] = seen2 at *
       have at1 := at_m (P := Tryz.prog) (f := 0) (s := 9) (o := 0) (cap := none) (k := .i64) Tryz.underlying53 Qjk (len := 256) k0 (i := k) (by omega)
       have kl : k.toNat + 1 <= y.length := by omega
       have es : y.take k.toNat ++ [.iS c 256 cf] ++ y.drop (k.toNat + 1) = Ja L seen2 rv := by
        rw [eS, List.set_eq_take_append_cons_drop, if_pos (by omega), Znj]; rfl
       simp only [Qn, Qh, Qg, Ql, Qa, Qd, nov, gd, rho, Qe, wr, simprocAttr, Qj, ↓Qi, Tryz.ntmps119, ta, new, Qb, hset, Qu, Qs, Qp, splice, zerosN, Qo, Qr, Qk, V.pure, Qq, en, at1, if_pos kl, es]
       exact W.done ⟨seen2, ⟨rfl, _, rfl, .inr ⟨_, rfl⟩⟩, less⟩
 . have yr : ∀ p : Nat -> Nat -> Bool, Qx p (Ja L (List.range L.length) rv) = false := fun p => by
    refine Qfx _ L (fun b k v h => ?_) _ rv (Qhr hl hr _)
    obtain ⟨_, c, f, e, _⟩ := hLk b k v h
    rw [e]; rfl
   have yl : (Ja L (List.range L.length) rv).length = 256 := by rw [Qav]; exact hl
   generalize Ja L (List.range L.length) rv = y at hr' yr yl ⊢
   have hK2 : WF [[(2, O.cells [.mS 0 9 0 256 none 1, .nS]), (4, .cells [.nS, .nS]), (9, .cells y), (16, .dead)], FL] := by
    have q := hFr (fun f _ => Nat.ble (0 + 1 + 1) f) rfl
    simp only [WF, Zh, q, Zo, orc, Qx, V.refs, yr, Zld, Zml]
    rfl
   have hb : Qmo [[(2, O.cells [.mS 0 9 0 256 none 1, .nS]), (4, .cells [.nS, .nS]), (9, .cells y), (16, .dead)], FL] (.mS 0 9 0 256 none 1) r' := by
    refine ⟨fun g => ?_, ⟨fun i => .ptr 0 9 i, fun i => y.getD i .bad, fun i hi => ?_, fun i hi G => ?_, fun i hi => ?_⟩, hrow', rfl, rfl, rfl⟩
    . simp only [Ka, Tryz.underlying53]
      rfl
    . have := at_m (P := Tryz.prog) (f := 0) (s := 9) (o := 0) (cap := none) (k := .i64) Tryz.underlying53 Qjk (len := 256) (i := (i : Int)) (by omega) (by omega)
      rw [this]
      have e : 0 + (i : Int).toNat * 1 = i := by omega
      rw [e]
    . obtain ⟨f, hf⟩ := hr' i hi
      show Q0 Tryz.prog 25 y i = _
      rw [rd25, hf]
      simp [List.getD, hf]
    . obtain ⟨f, hf⟩ := hr' i hi
      exact ⟨f, by simp [List.getD, hf]⟩
   obtain ⟨rr, KK, tw, rfl, rfl⟩ := Qy1 _ hK2 (.mS 0 9 0 256 none 1) .nS r' hb [] 0 Zq.nil (by omega) (fun _ => 0) (fun _ => []) (fun j hj => by omega) (fun j hj => by omega)
   have tw' := Kx (fn := 119) (fr := 0) (d := some 30) rfl rfl rfl tw
   simp only [Qgl, List.set_cons_succ, List.set_cons_zero]
   have zl : (zerosN [V.int .u8 0] 65536).length = 65536 := Qbn _ _
   simp only [Kc, if_true] at tw'
   generalize zerosN [V.int .u8 0] 65536 = Z at tw' zl
   have fz := fun HH hg => Qmv 2 HH r' Z (fun _ => 0) (fun _ => []) 0 hrow' zl hg
   simp only [Zld, Zml, Nat.reduceAdd, Kc, if_true] at tw' fz
   generalize hF3 : ([(20, .cells (X6 r' Z 256)), (33, .grow 256)] : AM.Frame) = F3 at tw'
   generalize Qiz _ _ _ _ 0 = F2 at tw'
   simp only [Zmj, Zmm] at tw'
   have fz2 := fun F0 => fz [F0, FL, F2, F3] (by rw [<- hF3]; rfl)
   clear fz hF3
   generalize Yv 3 256 = R0 at tw' fz2
   simp only [Qn, Qh, Qg, Ql, Qa, Qd, nov, gd, rho, Qe, wr, simprocAttr, Qj, ↓Qi, Tryz.ntmps119, ta, new, Qb, hset, Qu, Qs, Qp, splice, zerosN, Qo, Qr, Qk, V.pure, Qq, tw']
   refine W.done ?_
   exact Zx.ret (v := .agg [.gS 3 33 R0 256 1, .nS]) rfl (fz2 _) rfl
end
section
set_option maxRecDepth 100000
open Go.AM Go.AM.BM
attribute [local irreducible] U W
theorem Qp1 {v : V} (h : Qyt v = true) : ∃ c f, v = .iS c 256 f /\ Yf c := by
 cases v with
 | iS c n f =>
   simp only [Qyt, Zlm] at h
   obtain ⟨h1, h2, h3⟩ := h
   cases Znh h1
   replace h2 := Znh h2
   refine ⟨c, f, rfl, h2, ?_⟩
   rw [<- h3]; congr 1
 | _ => cases h
theorem Qhl {bv : V} {rv : List V} (h : Qio bv = some rv) : ∃ fl, bv = .iS rv 256 fl /\ rv.length = 256 /\ (∀ i, i < 256 -> ∃ f, rv[i]? = some (.iS (Qo6 (rv.getD i .bad)) 256 f)) /\ ∀ i, i < 256 -> Yf (Qo6 (rv.getD i .bad)) := by
 cases bv with
 | iS xs n f =>
   simp only [Qio] at h
   split at h
   case isFalse => cases h
   rename_i hc
   cases h
   simp only [Zlm, Zln] at hc
   obtain ⟨⟨h1, h2⟩, h3⟩ := hc
   cases Znh h1
   replace h2 := Znh h2
   have key : ∀ i, i < 256 -> ∃ c g, rv[i]? = some (.iS c 256 g) /\ rv.getD i .bad = .iS c 256 g /\ Yf c := fun i hi => by
    have hl : i < rv.length := by omega
    obtain ⟨c, g, e, hr⟩ := Qp1 (h3 rv[i] (List.getElem_mem hl))
    have e1 : rv[i]? = some (.iS c 256 g) := by rw [Zkv hl, e]
    exact ⟨c, g, e1, by simp [List.getD, e1], hr⟩
   refine ⟨f, rfl, h2, fun i hi => ?_, fun i hi => ?_⟩
   . obtain ⟨c, g, e1, e2, _⟩ := key i hi
     exact ⟨g, by rw [e1, e2]; rfl⟩
   . obtain ⟨c, g, _, e2, hr⟩ := key i hi
     rw [e2]; exact hr
 | _ => cases h
theorem Qnx : ∀ (cs : List V) (j : Nat), Qcy cs = true -> 2 * j + 1 < cs.length -> ∃ a c f, cs[2 * j]? = some (.int .i64 a) /\ 0 <= a /\ a < 256 /\ cs[2 * j + 1]? = some (.iS c 256 f) /\ Yf c
 | [], j, _, h => by simp at h
 | [x], j, _, h => by simp at h
 | x :: v :: r, j, h, hl => by
   unfold Qcy at h
   split at h
   . rename_i e; cases e
   . rename_i a v' r' e
     cases e
     simp only [Zlm, decide_eq_true_eq] at h
     obtain ⟨⟨⟨h1, h2⟩, h3⟩, h4⟩ := h
     cases j with
     | zero =>
       obtain ⟨c, f, rfl, hc⟩ := Qp1 h3
       exact ⟨a, c, f, rfl, h1, h2, rfl, hc⟩
     | succ j =>
       obtain ⟨b, c, f, q1, q2, q3, q4, q5⟩ := Qnx r j h4 (by simp only [Zld] at hl; omega)
       exact ⟨b, c, f, by rw [show 2 * (j + 1) = 2 * j + 1 + 1 by omega]; simpa using q1, q2, q3, by rw [show 2 * (j + 1) + 1 = 2 * j + 1 + 1 + 1 by omega]; simpa using q4, q5⟩
   . cases h
def waA (cs : List V) (j : Nat) : Int := match cs.getD (2 * j) .bad with
 | .int _ a => a
 | _ => 0
def waD (cs : List V) (j : Nat) : List V := Qo6 (cs.getD (2 * j + 1) .bad)
theorem Qjt {wv : V} {cs : List V} {n : Nat} (h : Qh4 wv = some (cs, n)) : Zq 2 wv cs n /\ n <= 4096 /\ (∀ j, j < n -> cs[2 * j]? = some (.int .i64 (waA cs j)) /\ ∃ fl, cs[2 * j + 1]? = some (.iS (waD cs j) 256 fl)) /\ (∀ j, j < n -> 0 <= waA cs j /\ waA cs j < 256) /\ ∀ j, j < n -> Yf (waD cs j) := by
 have key : ∀ cs n, Qcy cs = true -> cs.length = n * 2 -> (∀ j, j < n -> cs[2 * j]? = some (.int .i64 (waA cs j)) /\ ∃ fl, cs[2 * j + 1]? = some (.iS (waD cs j) 256 fl)) /\ (∀ j, j < n -> 0 <= waA cs j /\ waA cs j < 256) /\ ∀ j, j < n -> Yf (waD cs j) := fun cs n h hl => by
  have q : ∀ j, j < n -> ∃ f, cs[2 * j]? = some (.int .i64 (waA cs j)) /\ cs[2 * j + 1]? = some (.iS (waD cs j) 256 f) /\ (0 <= waA cs j /\ waA cs j < 256) /\ Yf (waD cs j) := fun j hj => by
   obtain ⟨a, c, f, q1, q2, q3, q4, q5⟩ := Qnx cs j h (by omega)
   have e1 : waA cs j = a := by simp [waA, List.getD, q1]
   have e2 : waD cs j = c := by simp [waD, List.getD, q4, Qo6]
   rw [e1, e2]
   exact ⟨f, q1, q4, ⟨q2, q3⟩, q5⟩
  exact ⟨fun j hj => by obtain ⟨f, q1, q2, _⟩ := q j hj; exact ⟨q1, f, q2⟩, fun j hj => by obtain ⟨f, _, _, q, _⟩ := q j hj; exact q, fun j hj => by obtain ⟨f, _, _, _, q⟩ := q j hj; exact q⟩
 cases wv with
 | nS =>
   cases h
   exact ⟨Zq.nil, by omega, fun j hj => by omega, fun j hj => by omega, fun j hj => by omega⟩
 | iS xs m f =>
   simp only [Qh4] at h
   split at h
   case isFalse => cases h
   rename_i hc
   cases h
   simp only [Zlm] at hc
   obtain ⟨⟨h1, h2⟩, h3⟩ := hc
   replace h1 := Znh h1
   replace h2 := Zmy h2
   exact ⟨Zq.mk h1, h2, key _ _ h3 h1⟩
 | _ => cases h
theorem Qha (x v : V) : ∀ (l : List V) (i : Nat), l.length = 2 * i -> Qde (l ++ [x, v]) = Qde l ++ [x, BM.newRow false v]
 | [], _, _ => rfl
 | [y], i, h => by simp at h; omega
 | y :: z :: l, i, h => by
   show y :: BM.newRow false z :: Qde (l ++ [x, v]) = _
   rw [Qha x v l (i - 1) (by simp only [Zld] at h; omega)]; rfl
theorem Qfc (cs : List V) (n : Nat) (hl : cs.length = n * 2) (h : ∀ j, j < n -> cs[2 * j]? = some (.int .i64 (waA cs j)) /\ ∃ fl, cs[2 * j + 1]? = some (.iS (waD cs j) 256 fl)) : ∀ i, i <= n -> Qbi (waA cs) (waD cs) i = Qde (cs.take (2 * i))
 | 0, _ => rfl
 | i + 1, hi => by
   obtain ⟨q1, f, q2⟩ := h i (by omega)
   obtain ⟨l1, g1⟩ := Zl7.1 q1
   obtain ⟨l2, g2⟩ := Zl7.1 q2
   have e : cs.take (2 * (i + 1)) = cs.take (2 * i) ++ [.int .i64 (waA cs i), .iS (waD cs i) 256 f] := by
    rw [show 2 * (i + 1) = 2 * i + 1 + 1 by omega, List.take_succ_eq_append_getElem l2, List.take_succ_eq_append_getElem l1, g1, g2, Znj]; rfl
   rw [e, Qha _ _ _ i (by rw [Znc]; omega), <- Qfc cs n hl h i (by omega), Qcm]; rfl
theorem Qm4 (rv cs : List V) (n : Nat) (hr : rv.length = 256) (hl : cs.length = n * 2) (h : ∀ j, j < n -> cs[2 * j]? = some (.int .i64 (waA cs j)) /\ ∃ fl, cs[2 * j + 1]? = some (.iS (waD cs j) 256 fl)) :
 encD (fun i => Qo6 (rv.getD i .bad)) (waA cs) (waD cs) n = Qq2 rv cs n := by
 have e1 : ((List.range 256).map fun j => V.iS (Qo6 (rv.getD j .bad)) 256 true) = rv.map (BM.newRow true) := by
  apply Zme
  intro i
  by_cases hi : i < 256
  . rw [Znf, Znf, List.getElem?_range hi, Zkv (by omega)]
    simp [BM.newRow, List.getD, Zkv (show i < rv.length by omega)]
  . rw [Zky (by simp; omega), Zky (by simp; omega)]
 have e2 := Qfc cs n hl h n (Zk0 n)
 rw [Znn (by omega)] at e2
 simp only [encD, Qq2, e1, e2]
theorem Q25 (ys : List V) (v : V) (h : Qzk ys = some v) : Fz Tryz.prog Qz 77 ys (· = v) := by
 unfold Qzk at h
 split at h
 case h_2 => cases h
 rename_i bv wv
 split at h
 case h_2 => cases h
 rename_i rv cs n hb hw
 cases h
 obtain ⟨fl, rfl, h1, h2, h3⟩ := Qhl hb
 obtain ⟨w1, w2, w3, w4, w5⟩ := Qjt hw
 have := Q81 rv fl _ h1 h2 h3 wv cs n w1 w2 (waA cs) (waD cs) w3 w5
 rw [Qm4 rv cs n h1 w1.1 w3] at this
 exact this
theorem Q8w (ys : List V) (v : V) (h : kNew ys = some v) : Fz Tryz.prog Qz 56 ys (· = v) := by
 unfold kNew at h
 split at h
 case h_2 => cases h
 cases h
 exact new_fz
end
section
set_option maxRecDepth 100000
open Go.AM Go.AM.BM
attribute [local irreducible] U W
theorem Q1m : CW Tryz.prog Qz 65 [.agg [.nS, .nS]] [] fun x _ => x = .ret (.int .i64 8) := by
 refine Xk Tryz.func65 rfl ?_
 have l1 : ∀ g, Ka Tryz.prog g 53 .nS = some (.int .i64 0) := fun g => Zq.nil (esz := 1) |>.len Tryz.underlying53 g
 have l2 : ∀ g, Ka Tryz.prog g 54 .nS = some (.int .i64 0) := fun g => Zq.nil (esz := 2) |>.len Tryz.underlying54 g
 simp only [Qn, Qh, Qg, Ql, Qa, Qd, nov, gd, rho, Qe, wr, simprocAttr, Qj, ↓Qi, Tryz.ntmps65, ta, new, Qb, hset, Qu, Qs, Qp, splice, zerosN, Qo, Qr, Qk, V.pure, Qq, l1, l2]
 refine W.ul ?_
 refine W.loopS (kt := [1, 3, 19, 20, 21]) rfl (fun _ : Nat => Qse (.ptr 0 1 0) (.bool false) .nS (.int .i64 0) (.int .i64 0)) (fun _ => [[(1, .cells [.nS, .nS])]]) (fun _ => True) (fun i => i) ?_ 0 trivial rfl rfl
 rintro i hi
 simp only [Qse]
 simp only [Qn, Qh, Qg, Ql, Qa, Qd, nov, gd, rho, Qe, wr, simprocAttr, Qj, ↓Qi]
 refine W.done ?_
 simp only [Qn, Qh, Qg, Ql, Qa, Qd, nov, gd, rho, Qe, wr, simprocAttr, Qj, ↓Qi, ta, new, Qb, hset, Qu, Qs, Qp, splice, zerosN, Qo, Qr, Qk, V.pure, Qq, l1, l2]
 refine W.ul ?_
 refine W.loop (fun (_ : Nat) t H => Bi [3, 33, 34, 35] t 0 = Qlz (.bool false) .nS (.int .i64 0) (.int .i64 0) /\ H = [[(1, .cells [.nS, .nS])]]) (fun i => i) ?_ 0 ⟨rfl, rfl⟩ rfl
 rintro i t H ⟨ht, rfl⟩
 have hd : ([[(1, .cells [.nS, .nS])]] : Heap).modify 0 (J8 fun s => [7].contains s) = [[(1, .cells [.nS, .nS])]] := rfl
 refine ⟨_, _, J4 (kt := [3, 33, 34, 35]) (ds := [7]) rfl ?_ ?_, ?_⟩
 . rw [ht]; rfl
 . rw [hd]; rfl
 rw [ht, hd]
 simp only [Qlz]
 simp only [Qn, Qh, Qg, Ql, Qa, Qd, nov, gd, rho, Qe, wr, simprocAttr, Qj, ↓Qi]
 refine W.done ?_
 simp only [Qn, Qh, Qg, Ql, Qa, Qd, nov, gd, rho, Qe, wr, simprocAttr, Qj, ↓Qi]
 exact W.done (End.ret (v := .int .i64 8) rfl rfl)
theorem Qp6 (ys : List V) (v : V) (h : Ql0 ys = some v) : FzN Tryz.prog Qz 65 ys v := by
 unfold Ql0 at h
 split at h
 case h_3 => cases h
 . cases h
   obtain ⟨r, H, e, rfl⟩ := Q1m
   exact ⟨_, _, e, rfl⟩
 . rename_i bv wv _
   split at h
   case h_2 => cases h
   rename_i rv cs hb hw
   obtain ⟨cs, n⟩ := cs
   cases h
   obtain ⟨fl, rfl, h1, h2, h3⟩ := Qhl hb
   obtain ⟨w1, w2, w3, w4, w5⟩ := Qjt hw
   obtain ⟨r, H, e, rfl⟩ := Q2s rv fl _ h1 h2 wv cs n w1 w2 (waA cs) (waD cs) w3 w4
   exact ⟨_, _, e, rfl⟩
end
section
set_option maxRecDepth 100000
open Go.AM Go.AM.BM
attribute [local irreducible] U W
def Qo2 (a : Nat -> Int) (dv : Nat -> V) : Nat -> List V -> List V
 | 0, rv => rv
 | i + 1, rv => (Qo2 a dv i rv).set (a i).toNat (dv i)
theorem Qms (a : Nat -> Int) (dv : Nat -> V) : ∀ (n : Nat) (rv : List V), Qo2 a dv (n + 1) rv = Qo2 (fun j => a (j + 1)) (fun j => dv (j + 1)) n (rv.set (a 0).toNat (dv 0))
 | 0, rv => rfl
 | n + 1, rv => by
   show (Qo2 a dv (n + 1) rv).set _ _ = _
   rw [Qms a dv n rv]; rfl
theorem Qkk (a : Nat -> Int) (dv : Nat -> V) : ∀ (n : Nat) (rv : List V), (Qo2 a dv n rv).length = rv.length
 | 0, _ => rfl
 | n + 1, rv => by rw [Qo2, Zne, Qkk a dv n rv]
theorem Qut (a : Nat -> Int) (dv : Nat -> V) : ∀ (n : Nat) (rv : List V) (x : V), x ∈ Qo2 a dv n rv -> x ∈ rv \/ ∃ j, j < n /\ x = dv j
 | 0, _, x, h => .inl h
 | n + 1, rv, x, h => by
   rcases List.mem_or_eq_of_mem_set h with h | rfl
   . rcases Qut a dv n rv x h with h | ⟨j, hj, e⟩
     . exact .inl h
     . exact .inr ⟨j, by omega, e⟩
   . exact .inr ⟨n, by omega, rfl⟩
def waV (cs : List V) (j : Nat) : V := cs.getD (2 * j + 1) .bad
theorem Qd4 : ∀ (n : Nat) (cs rv : List V), Qcy cs = true -> cs.length = n * 2 -> Qeh cs rv = Qo2 (waA cs) (waV cs) n rv
 | 0, cs, rv, _, h => by
   have : cs = [] := List.length_eq_zero_iff.1 (by omega)
   subst this; rfl
 | n + 1, [], rv, _, h => by simp at h
 | n + 1, [x], rv, _, h => by simp at h; omega
 | n + 1, x :: v :: r, rv, h, hl => by
   unfold Qcy at h
   split at h
   . rename_i e; cases e
   . rename_i a v' r' e
     cases e
     simp only [Zlm] at h
     have ih := Qd4 n r (rv.set a.toNat v) h.2 (by simp only [Zld] at hl; omega)
     show Qeh r (rv.set a.toNat v) = _
     rw [ih, Qms]
     have e1 : (fun j => waA (.int .i64 a :: v :: r) (j + 1)) = waA r := by
      funext j
      simp only [waA]
      rw [show 2 * (j + 1) = 2 * j + 1 + 1 by omega, List.getD_cons_succ, List.getD_cons_succ]
     have e2 : (fun j => waV (.int .i64 a :: v :: r) (j + 1)) = waV r := by
      funext j
      simp only [waV]
      rw [show 2 * (j + 1) + 1 = 2 * j + 1 + 1 + 1 by omega, List.getD_cons_succ, List.getD_cons_succ]
     rw [e1, e2]; rfl
   . cases h
theorem Qqa : ∀ (L : List (Int × V)) (k : Int) (v : V), (k, v) ∈ Qaf L k v
 | [], k, v => by simp [Qaf]
 | (k', v') :: r, k, v => by
   simp only [Qaf]
   split
   . simp
   . exact Zlk _ (Qqa r k v)
theorem Qqs : ∀ (L : List (Int × V)) (k : Int) (v : V) (x : Int × V), x.1 ≠ k -> x ∈ L -> x ∈ Qaf L k v
 | (k', v') :: r, k, v, x, hx, h => by
   simp only [Qaf]
   rcases Zli.1 h with rfl | h
   . rw [if_neg (fun e => hx e.symm)]; simp
   . split
     . exact Zlk _ h
     . exact Zlk _ (Qqs r k v x hx h)
def Qfe (L : List (Int × V)) (rv : List V) : List V := Ja L (List.range L.length) rv
theorem Qhm {L : List (Int × V)} (hn : (L.map Prod.fst).Nodup) (h0 : ∀ x ∈ L, 0 <= x.1) {x : Int × V} (hx : x ∈ L) {rv : List V} (hl : x.1.toNat < rv.length) : (Qfe L rv)[x.1.toNat]? = some x.2 := by
 obtain ⟨b, hb⟩ := Zl8.1 hx
 exact Qdx L (fun b c k v w h1 h2 => Qml hn b c k v w h1 h2) (fun b k v h => h0 _ (List.mem_of_getElem? h)) (k := x.1) (v := x.2) hb _ rv (Zmr.2 (Zl7.1 hb).1) hl
theorem Qk6 {L : List (Int × V)} {i : Nat} (h : ∀ x ∈ L, x.1.toNat ≠ i) (rv : List V) : (Qfe L rv)[i]? = rv[i]? :=
 Qa7 L i _ rv fun b _ k v hb => h _ (List.mem_of_getElem? hb)
theorem Qws {L : List (Int × V)} (hn : (L.map Prod.fst).Nodup) (h0 : ∀ x ∈ L, 0 <= x.1 /\ x.1 < 256) (k : Int) (v : V) (k0 : 0 <= k) (k1 : k < 256) (rv : List V) (hl : rv.length = 256) : Qfe (Qaf L k v) rv = (Qfe L rv).set k.toNat v := by
 have hn2 := Qh7 L k v hn
 have h2 : ∀ x ∈ Qaf L k v, 0 <= x.1 := fun x hx => by
  rcases Qf1 _ _ _ _ hx with rfl | hx
  . exact k0
  . exact (h0 x hx).1
 have la : (Qfe L rv).length = 256 := by rw [Qfe, Qav, hl]
 apply Zme
 intro i
 by_cases hi : i = k.toNat
 . subst hi
   have := Qhm hn2 h2 (Qqa L k v) (rv := rv) (by show k.toNat < _; omega)
   rw [Zm0, if_pos rfl, if_pos (by omega)]
   exact this
 . rw [Zm0, if_neg (fun e => hi e.symm)]
   by_cases hx : ∃ x ∈ L, x.1.toNat = i
   . obtain ⟨x, hx, rfl⟩ := hx
     have hk : x.1 ≠ k := fun e => hi (by rw [e])
     have b := h0 x hx
     rw [Qhm hn2 h2 (Qqs L k v x hk hx) (by omega), Qhm hn (fun x hx => (h0 x hx).1) hx (by omega)]
   . have hm : ∀ x ∈ L, x.1.toNat ≠ i := fun x hx' e => hx ⟨x, hx', e⟩
     rw [Qk6 hm, Qk6]
     intro x hx'
     rcases Qf1 _ _ _ _ hx' with rfl | h
     . exact fun e => hi e.symm
     . exact hm x h
theorem Qqu (a : Nat -> Int) (dv : Nat -> V) (rv : List V) (hl : rv.length = 256) (n : Nat) (ha : ∀ j, j < n -> 0 <= a j /\ a j < 256) : ∀ i, i <= n -> Qo2 a dv i rv = Qfe (Xh a dv i) rv
 | 0, _ => rfl
 | i + 1, hi => by
   have q := ha i (by omega)
   show (Qo2 a dv i rv).set _ _ = Qfe (Qaf (Xh a dv i) (a i) (dv i)) rv
   rw [Qws (Qfz a dv i) (fun x hx => ?_) (a i) (dv i) q.1 q.2 rv hl, Qqu a dv rv hl n ha i (by omega)]
   obtain ⟨j, hj, e⟩ := Qhw a dv i x hx
   rw [e]; exact ha j (by omega)
theorem Q8j (l : List V) (h : ∀ x ∈ l, ∃ c f, x = .iS c 256 f /\ Yf c) (hl : l.length = 256) :
 (∀ i, i < 256 -> ∃ f, l[i]? = some (.iS (Qo6 (l.getD i .bad)) 256 f)) /\ ∀ i, i < 256 -> Yf (Qo6 (l.getD i .bad)) := by
 have key : ∀ i, i < 256 -> ∃ c g, l[i]? = some (.iS c 256 g) /\ l.getD i .bad = .iS c 256 g /\ Yf c := fun i hi => by
  have hl : i < l.length := by omega
  obtain ⟨c, g, e, hr⟩ := h l[i] (List.getElem_mem hl)
  have e1 : l[i]? = some (.iS c 256 g) := by rw [Zkv hl, e]
  exact ⟨c, g, e1, by simp [List.getD, e1], hr⟩
 refine ⟨fun i hi => ?_, fun i hi => ?_⟩
 . obtain ⟨c, g, e1, e2, _⟩ := key i hi
   exact ⟨g, by rw [e1, e2]; rfl⟩
 . obtain ⟨c, g, _, e2, hr⟩ := key i hi
   rw [e2]; exact hr
theorem Qx3 {wv : V} {cs : List V} {n : Nat} (h : Qh4 wv = some (cs, n)) : Qcy cs = true := by
 cases wv with
 | nS => cases h; rfl
 | iS xs m f =>
   simp only [Qh4] at h
   split at h
   case isFalse => cases h
   rename_i hc
   cases h
   simp only [Zlm] at hc
   exact hc.2
 | _ => cases h
theorem Q27 (ys : List V) (v : V) (h : Qzt 120 ys = some v) : Fz Tryz.prog Qz 119 ys (· = v) := by
 unfold Qzt at h
 split at h
 case h_2 => cases h
 rename_i bv wv sv
 split at h
 case isFalse => cases h
 rename_i hfn
 split at h
 case h_2 => cases h
 rename_i rv cs n hb hw
 split at h
 case isFalse => cases h
 rename_i hc
 cases h
 have hsr : ∀ p, sv.refs p = false := fun p => by
  unfold isFn at hfn
  split at hfn
  . rfl
  . rfl
  . rfl
  . cases hfn
 have hso : sv = .func (.func 120) [] [] \/ n = 0 := by
  rcases Bool.or_eq_true_iff.1 hc with h | h
  . left
    unfold isAll at h
    split at h
    . cases Znh h; rfl
    . cases h
  . exact .inr (Znh h)
 obtain ⟨fl, rfl, h1, h2, h3⟩ := Qhl hb
 obtain ⟨w1, w2, w3, w4, w5⟩ := Qjt hw
 have wok := Qx3 hw
 have wv3 : ∀ j, j < n -> ∃ c f, waV cs j = .iS c 256 f /\ Yf c /\ cs[2 * j + 1]? = some (waV cs j) := fun j hj => by
  obtain ⟨_, f, e⟩ := w3 j hj
  have e2 : waV cs j = .iS (waD cs j) 256 f := by simp [waV, List.getD, e]
  exact ⟨_, f, e2, w5 j hj, by rw [e2]; exact e⟩
 have eA : Qeh cs rv = Ja (Xh (waA cs) (waV cs) n) (List.range (Xh (waA cs) (waV cs) n).length) rv := by
  rw [Qd4 n cs rv wok w1.1, Qqu (waA cs) (waV cs) rv h1 n w4 n (Zk0 n)]; rfl
 have hl2 : (Qeh cs rv).length = 256 := by rw [Qd4 n cs rv wok w1.1, Qkk, h1]
 have hm : ∀ x ∈ Qeh cs rv, ∃ c f, x = .iS c 256 f /\ Yf c := fun x hx => by
  rw [Qd4 n cs rv wok w1.1] at hx
  rcases Qut _ _ n rv x hx with hx | ⟨j, hj, rfl⟩
  . obtain ⟨i, hi⟩ := Zl8.1 hx
    have hi2 : i < 256 := by rw [<- h1]; exact (Zl7.1 hi).1
    obtain ⟨f, e⟩ := h2 i hi2
    have := h3 i hi2
    rw [hi] at e
    cases e
    exact ⟨_, f, rfl, this⟩
  . obtain ⟨c, f, e, hc, _⟩ := wv3 j hj
    exact ⟨c, f, e, hc⟩
 obtain ⟨r1, r2⟩ := Q8j _ hm hl2
 have e3 := Qm4 (Qeh cs rv) [] 0 hl2 rfl (fun j hj => by omega)
 rw [<- e3]
 exact Q70 rv fl _ h1 h2 h3 wv cs n w1 w2 (waA cs) (waV cs) (fun j hj => ⟨(w3 j hj).1, by obtain ⟨_, _, _, _, e⟩ := wv3 j hj; exact e⟩) w4 (fun j hj => by obtain ⟨c, f, e, hc, _⟩ := wv3 j hj; exact ⟨c, f, e, hc⟩) (fun i => Qo6 ((Qeh cs rv).getD i .bad)) (fun i hi => by rw [<- eA]; exact r1 i hi) r2 sv hso hsr
end
end Go.Proofs.YteagpfbdmiihaaaGreatDoor
