/- This file holds in one the texts D7, D8, D9, DT, DU; each says at its head what it proves. -/
import Derived.Test.YtgnnlchhfiomgaaGreatDoorT20
import Derived.Test.YtgnnlchhfiomgaaGreatDoorT27
import Derived.Test.YtgnnlchhfiomgaaGreatDoorT28
import Derived.Test.YtgnnlchhfiomgaaGreatDoorT32
set_option linter.unusedSimpArgs false
set_option linter.unusedVariables false
namespace Go.Proofs.YtgnnlchhfiomgaaGreatDoor
section
set_option maxRecDepth 100000
open Go.AM
attribute [local irreducible] U W
theorem Qwt (x : V) (n : Nat) : zerosN [x] n = List.replicate n x := by
 induction n with
 | zero => rfl
 | succ n ih => show [x] ++ zerosN [x] n = _; rw [ih, List.replicate_succ]; rfl
theorem Qut (x : V) : Xq (fun _ => List.replicate 256 x) (zerosN [x] 65536) 256 = zerosN [x] 65536 := by
 rw [Qwt]
 refine List.eq_replicate_iff.2 ⟨?_, ?_⟩
 . exact Qed (by rw [Zmj]) (Zjw _) (fun j _ => by rw [Zmj])
 . intro b hb
   unfold Xq at hb
   rcases Zkm.1 hb with h | h
   . obtain ⟨l, hl, hbl⟩ := List.mem_flatten.1 h
     obtain ⟨j, _, rfl⟩ := Zkk.1 hl
     exact (List.mem_replicate.1 hbl).2
   . exact (List.mem_replicate.1 (Zl2 h)).2
def newV : V := .agg [.iS (List.replicate 256 (.iS (List.replicate 256 (.int .u8 0)) 256 true)) 256 false, .nS]
theorem Qwh : encD (fun _ => List.replicate 256 (.int .u8 0)) (fun _ => 0) (fun _ => []) 0 = newV := by
 have e : ((List.range 256).map fun j => V.iS ((fun _ => List.replicate 256 (V.int .u8 0)) j) 256 true) = List.replicate 256 (.iS (List.replicate 256 (.int .u8 0)) 256 true) := by
  rw [List.map_const', List.length_range]
 show V.agg [.iS ((List.range 256).map fun j => V.iS ((fun _ => List.replicate 256 (V.int .u8 0)) j) 256 true) 256 false, if 0 = 0 then .nS else _] = _
 rw [e, if_pos rfl]
 rfl
theorem new_fz : Fz Tryz.prog Qz 153 [] fun x => x = newV := by
 refine Jt Tryz.func153 rfl ?_
 obtain ⟨m, rfl, hm⟩ := Q01.op (by rfl) rfl
 have hm' : ∀ s H, _ := fun s H => hm 153 0 s H rfl
 have hr : ∀ i, i < 256 -> (Kv 256)[i]? = some 256 := fun i hi => by
  have : Kv 256 = List.replicate 256 256 := by simp only [Kv, Nat.sub_self, List.replicate_zero, Zk5]
  rw [this, List.getElem?_replicate, if_pos hi]
 have hv : Bk (.iS (Q3 (Kv 256)) 256 true) (Kv 256) := by
  have := Bk.mk (Kv 256) true
  rwa [Bv (Zjw _)] at this
 have hwF : WF [[(0, O.cells [.nS, .nS])]] := rfl
 obtain ⟨rr, KK, hcall, rfl, rfl⟩ := Q2m [[(0, .cells [.nS, .nS])]] hwF (.iS (Q3 (Kv 256)) 256 true) (Kv 256) (Bv (Zjw _)) hr hv
 have hcall' : callOp Qz (Q5 Tryz.prog Qz) 153 0 (some 3) 166 [.iS (Q3 (Kv 256)) 256 true] [[(0, .cells [.nS, .nS])]] = some (.ret (.gS 1 33 (Yr 1 256) 256 1), [[(0, .cells [.nS, .nS])], [(20, .cells (zerosN [.int .u8 0] 65536)), (33, .grow 256)]]) :=
  Qk1 rfl rfl rfl rfl hcall
 generalize hZ : zerosN [V.int .u8 0] 65536 = Z at hcall'
 generalize hR : Yr 1 256 = R at hcall'
 generalize hQ : Q3 (Kv 256) = Q at hm' hcall'
 have mt1 : Qz.mt 153 1 = false := rfl
 simp only [Qn, Qf, Qg, Ql, Qa, Qc, nov, gd, rho, Qe, wr, simprocAttr, Qi, ↓Qh, Tryz.ntmps153, ta, new, Qb, hset, Qu, Qs, Qp, splice, zerosN, Qo, Qq, Qk, V.pure, Qr, mt1, hm', hcall', Tryz.underlying32, sz3, zc3]
 refine W.done (Zu.ret (v := .agg [.gS 1 33 R 256 1, .nS]) ?_ ?_ rfl)
 . exact Qqp (f := 0) (s := 0) (o := 0) (xs := [.gS 1 33 R 256 1, .nS]) rfl rfl rfl (by rw [rd25]; rfl)
 rw [<- Qwh, <- hR]
 refine Qln 0 _ (fun _ => List.replicate 256 (.int .u8 0)) (zerosN [.int .u8 0] 65536) (fun _ => 0) (fun _ => []) 0 (fun i _ => ⟨by rw [Zmj], by
  rw [Zkj]; intro x hx; rw [(List.mem_replicate.1 hx).2]; rfl⟩) (Qbj _ _) ?_
 rw [Qut, hZ]; rfl
end
section
set_option maxRecDepth 100000
open Go.AM
attribute [local irreducible] U W
def ent (x : Int × V) : V × V := (.int .i64 x.1, .agg [.int .i64 x.1, x.2])
def Qab : List (Int × V) -> Int -> V -> List (Int × V)
 | [], k, v => [(k, v)]
 | (k', v') :: r, k, v => if k = k' then (k, v) :: r else (k', v') :: Qab r k v
theorem Q2q (k : Int) (v : V) : ∀ (L : List (Int × V)) (i0 : Nat),
 (∃ j x, findKey (.int .i64 k) (L.map ent) i0 = some (some (i0 + j, x)) /\ (L.map ent).set j (ent (k, v)) = (Qab L k v).map ent /\ (Qab L k v).length = L.length) \/
 (findKey (.int .i64 k) (L.map ent) i0 = some none /\ L.map ent ++ [ent (k, v)] = (Qab L k v).map ent /\ (Qab L k v).length = L.length + 1)
 | [], i0 => .inr ⟨rfl, rfl, rfl⟩
 | (k', v') :: r, i0 => by
   have e : findKey (.int .i64 k) (((k', v') :: r).map ent) i0 = (match (if (k == k') then some true else some false : Option Bool) with
    | some true => some (some (i0, (ent (k', v')).2))
    | some false => findKey (.int .i64 k) (r.map ent) (i0 + 1)
    | none => none) := by
    show (match (if IntKind.i64 = IntKind.i64 then some (k == k') else none : Option Bool) with
    | some true => some (some (i0, (ent (k', v')).2))
    | some false => findKey (.int .i64 k) (r.map ent) (i0 + 1)
    | none => none) = _
    rw [if_pos rfl]
    cases (k == k') <;> rfl
   rw [e]
   by_cases h : k = k'
   . subst h
     refine .inl ⟨0, _, by simp; rfl, ?_, ?_⟩
     . simp [Qab]
     . simp [Qab]
   . have hb : (k == k') = false := by simp [h]
     rw [hb]
     simp only [Zjv, if_false, Qab, h]
     rcases Q2q k v r (i0 + 1) with ⟨j, x, h1, h2, h3⟩ | ⟨h1, h2, h3⟩
     . refine .inl ⟨j + 1, x, by rw [h1]; congr 3; omega, ?_, ?_⟩
       . simp only [Zkd, List.set_cons_succ, h2]
       . simp only [Zj9, h3]
     . exact .inr ⟨h1, by simp only [Zkd, Zle, h2], by simp only [Zj9, h3]⟩
def Qhr (L : List (Int × V)) : O := .map (L.map ent) (List.range L.length) L.length
theorem upd_L {g : Get} {f s : Nat} {L : List (Int × V)} (k : Int) (v : V) (hg : g f s = some (Qhr L)) :
 updateV Tryz.prog g 133 (.map f s) (.int .i64 k) (.agg [.int .i64 k, v]) = some (.val .bad (some (f, s, Qhr (Qab L k v)))) := by
 have hk : Yy (.int .i64) (.int .i64 k) = true := rfl
 unfold Qhr at hg
 simp only [updateV, Tryz.underlying133, Tryz.underlying3, hk, if_true, hg]
 rcases Q2q k v L 0 with ⟨j, x, h1, h2, h3⟩ | ⟨h1, h2, h3⟩
 . simp only [h1, Zj3]
   unfold Qhr
   rw [h3, <- h2]; rfl
 . simp only [h1]
   unfold Qhr
   rw [h3, <- h2, Zmh]; rfl
def Kx (a : Nat -> Int) (dv : Nat -> V) : Nat -> List (Int × V)
 | 0 => []
 | i + 1 => Qab (Kx a dv i) (a i) (dv i)
theorem all_fz (i : Int) : Fz Tryz.prog Qz 168 [.int .i64 i] fun x => x = .bool true := by
 refine Jt Tryz.func168 rfl ?_
 simp only [Qn, Qf, Qg, Ql, Qa, Qc, nov, gd, rho, Qe, wr, simprocAttr, Qi, ↓Qh, Tryz.ntmps168]
 exact W.done (Zu.ret rfl rfl rfl)
def laF (bv wv : V) (L : List (Int × V)) : AM.Frame := [(2, .cells [bv, wv]), (8, Qhr L)]
def laF' (bv wv : V) (y : List V) (L : List (Int × V)) : AM.Frame := [(2, .cells [bv, wv]), (7, .cells y), (8, Qhr L)]
theorem Q0a {cs : List V} {n i : Nat} {a : Int} {x : V} (h : i < n) (hl : cs.length = n * 2) (e1 : cs[2 * i]? = some (.int .i64 a)) (e2 : cs[2 * i + 1]? = some x) :
 Q2 Tryz.prog 136 cs ((i : Int).toNat * 2) = some (.agg [.int .i64 a, x]) := by
 have e : (i : Int).toNat * 2 = 2 * i := by omega
 rw [e, Q17, if_pos (by omega)]
 obtain ⟨l1, g1⟩ := Zk2.1 e1
 obtain ⟨l2, g2⟩ := Zk2.1 e2
 rw [Zmf l1, Zlu, Zmf l2, Zlu, List.take_zero, g1, g2]
theorem Qfy : ∀ (L : List (Int × V)) (k : Int) (v : V) (x : Int × V), x ∈ Qab L k v -> x = (k, v) \/ x ∈ L
 | [], k, v, x, h => .inl (by simpa [Qab] using h)
 | (k', v') :: r, k, v, x, h => by
   simp only [Qab] at h
   split at h
   . rcases Zke.1 h with rfl | h
     . exact .inl rfl
     . exact .inr (Zkg _ h)
   . rcases Zke.1 h with rfl | h
     . exact .inr (Zkf)
     . rcases Qfy r k v x h with e | e
       . exact .inl e
       . exact .inr (Zkg _ e)
theorem Qp8 (a : Nat -> Int) (dv : Nat -> V) : ∀ (i : Nat) (x : Int × V), x ∈ Kx a dv i -> ∃ j, j < i /\ x.2 = dv j
 | 0, x, h => by cases h
 | i + 1, x, h => by
   rcases Qfy _ _ _ _ h with rfl | h
   . exact ⟨i, by omega, rfl⟩
   . obtain ⟨j, hj, e⟩ := Qp8 a dv i x h
     exact ⟨j, by omega, e⟩
theorem Qqb (p : Nat -> Nat -> Bool) (L : List (Int × V)) (h : ∀ x ∈ L, x.2.refs p = false) : (Qhr L).refs p = false := by
 show Qe0 p (L.map ent) = false
 induction L with
 | nil => rfl
 | cons x L ih =>
   have h1 := h x (by simp)
   have h2 := ih (fun y hy => h y (by simp [hy]))
   simp only [Zkd, Qe0, ent, V.refs, Qx, h1, h2]; rfl
theorem orc {p : Nat -> Nat -> Bool} {xs : List V} : (O.cells xs).refs p = Qx p xs := rfl
theorem Q3o (K : Heap) (hw : WF K) (bv wv : V) (hbs : bv.scalar = true) (hbr : bv.refs (fun f _ => Nat.ble K.length f) = false) (cs : List V) (n : Nat) (hv : Zn 2 wv cs n) (hn : n <= 4096) (a : Nat -> Int) (dv : Nat -> V)
 (hwait : ∀ j, j < n -> cs[2 * j]? = some (.int .i64 (a j)) /\ cs[2 * j + 1]? = some (dv j)) (hdv : ∀ j, j < n -> ∃ c fl, dv j = .iS c 256 fl) (sv : V) (hso : sv = .func (.func 168) [] [] \/ n = 0) (hsr : ∀ p, sv.refs p = false) :
 CW Tryz.prog Qz 91 [.agg [bv, wv], sv] K fun r K' => r = .ret (.map K.length 8) /\ K' = K ++ [laF bv wv (Kx a dv n)] := by
 refine Xr Tryz.func91 rfl ?_
 have lw := hv.len Tryz.underlying23
 have wsc : wv.scalar = true := Qid hv
 simp only [Qn, Qf, Qg, Ql, Qa, Qc, nov, gd, rho, Qe, wr, simprocAttr, Qi, ↓Qh, Tryz.ntmps91, ta, new, Qm9, Qu, Qs, splice, zerosN, Qo, Qq, Qk, V.pure, Qr, hbs, wsc, lw, Tryz.underlying133]
 refine W.ul ?_
 refine W.loop (fun (i : Nat) t H => ∃ F : AM.Frame, Bu [1, 5, 10, 11, 12] t 0 = Qw1 sv (.map K.length 8) wv (.int .i64 n) (.int .i64 i) /\ i <= n /\ H = K ++ [F] /\ (F = laF bv wv (Kx a dv i) \/ ∃ y, F = laF' bv wv y (Kx a dv i)))
  (fun i => n - i) ?_ 0 ⟨_, rfl, by omega, rfl, .inl rfl⟩ rfl
 rintro i t H ⟨F, ht, hi, rfl, hF⟩
 have hd : (K ++ [F]).modify K.length (J8 fun s => [7].contains s) = K ++ [laF bv wv (Kx a dv i)] := by
  have := Qbx (J8 fun s => [7].contains s) K [F] 0
  refine this.trans ?_
  rcases hF with rfl | ⟨y, rfl⟩ <;> rfl
 have bvr : bv.refs (fun f s => f == K.length && [7].contains s) = false := Qam (fun f s h => by simp at h; simp; omega) bv hbr
 have wvr : wv.refs (fun f s => f == K.length && [7].contains s) = false := hv.noRefs _
 have mr : ∀ p : Nat -> Nat -> Bool, (Qhr (Kx a dv i)).refs p = false := fun p => Qqb p _ (fun x hx => by
  obtain ⟨j, hj, e⟩ := Qp8 a dv i x hx
  obtain ⟨c, fl, e2⟩ := hdv j (by omega)
  rw [e, e2]; rfl)
 refine ⟨_, _, Ye (kt := [1, 5, 10, 11, 12]) (ds := [7]) rfl ?_ ?_, ?_⟩
 . rw [ht]
   simp only [Qw1, Qx, V.refs, wvr, hsr]; simp
 . rw [hd, Xy, Qfs hw (fun f s h => by simp at h; omega)]
   simp only [laF, Zi, Zo, orc, Qx, bvr, wvr, mr]; rfl
 rw [ht, hd]
 simp only [Qw1]
 by_cases h : i < n
 . have c1 : decide ((i : Int) < n) = true := Zmo (by omega)
   have w1 := Bw (i := i) (by omega)
   have hsv := hso.resolve_right (by omega)
   subst hsv
   obtain ⟨e1, e2⟩ := hwait i h
   have at1 := hv.at (k := .i64) Tryz.underlying23 Qmw (by decide) (i := (i : Int)) (by omega) (by omega)
   have ldw := Q0a h hv.1 e1 e2
   obtain ⟨m, rfl, hm⟩ := (all_fz (i : Int)).op (by rfl) rfl
   have hm' : ∀ s H, _ := fun s H => hm 91 K.length s H rfl
   have dsc : (dv i).scalar = true := by obtain ⟨c, fl, e⟩ := hdv i h; rw [e]; rfl
   have up := upd_L (g := Qb (K ++ [[(2, .cells [bv, wv]), (7, .cells [.int .i64 (a i), dv i]), (8, Qhr (Kx a dv i))]])) (f := K.length) (s := 8) (L := Kx a dv i) (a i) (dv i) (by rw [Jq]; rfl)
   have eL : Qab (Kx a dv i) (a i) (dv i) = Kx a dv (i + 1) := rfl
   rw [eL] at up
   simp only [laF]
   generalize hO : Qhr (Kx a dv i) = O1 at up ⊢
   generalize hO2 : Qhr (Kx a dv (i + 1)) = O2 at up
   simp only [Qn, Qf, Qg, Ql, Qa, Qc, nov, gd, rho, Qe, wr, simprocAttr, Qi, ↓Qh, c1, at1, ldw, ta, new, Qm9, Qu, Qs, splice, zerosN, Qo, Qq, Qk, V.pure, Qr, w1, hm', dsc, up]
   exact W.done ⟨i + 1, ⟨_, rfl, by omega, rfl, .inr ⟨_, by rw [<- hO2]; rfl⟩⟩, by omega⟩
 . have c1 : decide ((i : Int) < n) = false := Zmp (by omega)
   have hi2 : i = n := by omega
   subst hi2
   simp only [Qn, Qf, Qg, Ql, Qa, Qc, nov, gd, rho, Qe, wr, simprocAttr, Qi, ↓Qh, c1]
   refine W.done ?_
   simp only [Qn, Qf, Qg, Ql, Qa, Qc, nov, gd, rho, Qe, wr, simprocAttr, Qi, ↓Qh]
   refine W.done (End.ret (v := .map K.length 8) rfl ?_)
   rw [Qak (by simp [V.refs])]
   exact ⟨rfl, rfl⟩
end
section
set_option maxRecDepth 100000
open Go.AM
attribute [local irreducible] U W
theorem Qwg (rv : List V) (fl : Bool) (hl : rv.length = 256) (hsc : rv.all V.scalar = true) :
 Q5 Tryz.prog Qz (some 74) [.iS rv 256 fl] [] = some (.ret (.mS 0 7 0 256 none 1), [[(5, .cells []), (7, .cells rv)]]) := by
 have key : CW Tryz.prog Qz 74 [.iS rv 256 fl] [] fun r K' => r = .ret (.mS 0 7 0 256 none 1) /\ K' = [[(5, .cells []), (7, .cells rv)]] := by
  refine Xr Tryz.func74 rfl ?_
  have nn := Qge (P := Tryz.prog) (t := 22) Tryz.underlying22 (x := .tmp 3) (y := .const (.slice none 0 0)) (cs := rv) (n := 256) (f := fl)
  have mt5 : Qz.mt 74 5 = true := rfl
  have mt7 : Qz.mt 74 7 = true := rfl
  have sc : ∀ g, Qy g 1 (.iS rv 256 fl) = some (rv, 256) := fun g => by simp [Qy, hl]
  have ap : Zl Tryz.prog (Qz.mt 74) 0 (Qb [[(5, O.cells [])]]) (some 7) 22 22 (.mS 0 5 0 0 (some 0) 1) (.iS rv 256 fl) = some (.val (.mS 0 7 0 256 none 1) (some (0, 7, .cells rv))) := by
   have g5 : Qb [[(5, O.cells [])]] 0 5 = some (.cells []) := rfl
   have n7 : Qb [[(5, O.cells [])]] 0 7 = none := rfl
   simp only [Zl, Tryz.underlying22, Qje, by27, zc26, Kc, sc, appendTo, g5]
   simp [grown, mt7, new, n7, hsc, Yw]
  simp only [Qn, Qf, Qg, Ql, Qa, Qc, nov, gd, rho, Qe, wr, simprocAttr, Tryz.ntmps74, nn, mt5, Yg, ap, Tryz.underlying22, Qje, zc26, new, Qb, hset, Qu, Qs, Qp, splice, zerosN, Qo, Qq, Qk, V.pure, Qr]
  refine W.done (End.ret (v := .mS 0 7 0 256 none 1) rfl ?_)
  have := Qak (b := 0) (H := [[(5, O.cells []), (7, .cells rv)]]) (v := .mS 0 7 0 256 none 1) (by simp [V.refs])
  exact ⟨rfl, this⟩
 obtain ⟨r, K', h, rfl, rfl⟩ := key
 exact h
theorem Q03 (rv : List V) (fl : Bool) (hl : rv.length = 256) (hsc : rv.all V.scalar = true) (hp : Qk rv = true) (fn fr d : Nat) (H : Heap) (hn : Qb H fr d = none) :
 callOp Qz (Q5 Tryz.prog Qz) fn fr (some d) 74 [.iS rv 256 fl] H = some (.ret (.mS fr d 0 256 none 1), hset H fr d (.cells rv)) := by
 have hc := Qwg rv fl hl hsc
 have a1 : Qz.prim 74 = none := rfl
 have a2 : Qz.pure fn 74 = false := rfl
 have a3 : Qz.lift fn 74 = true := rfl
 have fz : Zb (frz (fun _ _ => none) depth) [.iS rv 256 fl] = some [.iS rv 256 fl] := rfl
 have hg : Qb [[(5, O.cells []), (7, .cells rv)]] 0 7 = some (.cells rv) := rfl
 simp only [callOp, a1, a2, a3, Zjv, if_false, if_true, fz, hc, Qel, hn, hg, hp, Zjs, wr]
def lfF (wv : V) (c : List V) (N : Nat) (seen : List Nat) : AM.Frame := [(2, .cells [.mS 0 9 0 256 none 1, wv]), (4, .cells [.nS, .nS]), (9, .cells c), (16, .iter (some (1, 8)) N seen N)]
def lfF' (wv : V) (c : List V) (N : Nat) (seen : List Nat) (y : List V) : AM.Frame := [(2, .cells [.mS 0 9 0 256 none 1, wv]), (4, .cells [.nS, .nS]), (6, .cells y), (9, .cells c), (16, .iter (some (1, 8)) N seen N)]
theorem Qh0 (a : Nat -> Int) (dv : Nat -> V) : ∀ (i : Nat) (x : Int × V), x ∈ Kx a dv i -> ∃ j, j < i /\ x = (a j, dv j)
 | 0, x, h => by cases h
 | i + 1, x, h => by
   rcases Qfy _ _ _ _ h with rfl | h
   . exact ⟨i, by omega, rfl⟩
   . obtain ⟨j, hj, e⟩ := Qh0 a dv i x h
     exact ⟨j, by omega, e⟩
theorem Qqn : ∀ (L : List (Int × V)) (k : Int) (v : V) (x : Int), x ∈ (Qab L k v).map Prod.fst -> x = k \/ x ∈ L.map Prod.fst
 | [], k, v, x, h => .inl (by simpa [Qab] using h)
 | (k', v') :: r, k, v, x, h => by
   simp only [Qab] at h
   split at h
   . rename_i e; subst e; exact .inr h
   . simp only [Zkd, Zke] at h ⊢
     rcases h with h | h
     . exact .inr (.inl h)
     . rcases Qqn r k v x h with h | h
       . exact .inl h
       . exact .inr (.inr h)
theorem Qhm : ∀ (L : List (Int × V)) (k : Int) (v : V), (L.map Prod.fst).Nodup -> ((Qab L k v).map Prod.fst).Nodup
 | [], k, v, _ => by simp [Qab]
 | (k', v') :: r, k, v, h => by
   simp only [Qab]
   split
   . rename_i e; subst e; exact h
   . rename_i e
     simp only [Zkd, Zkl] at h ⊢
     refine ⟨fun hm => ?_, Qhm r k v h.2⟩
     rcases Qqn r k v k' hm with h1 | h1
     . exact e h1.symm
     . exact h.1 h1
theorem Qer (a : Nat -> Int) (dv : Nat -> V) : ∀ i, ((Kx a dv i).map Prod.fst).Nodup
 | 0 => by simp [Kx]
 | i + 1 => Qhm _ _ _ (Qer a dv i)
theorem Ql0 {L : List (Int × V)} (h : (L.map Prod.fst).Nodup) (b c : Nat) (k : Int) (v w : V) (h1 : L[b]? = some (k, v)) (h2 : L[c]? = some (k, w)) : b = c := by
 obtain ⟨l1, e1⟩ := Zk2.1 h1
 obtain ⟨l2, e2⟩ := Zk2.1 h2
 have q1 : (L.map Prod.fst)[b]? = some k := by rw [Zl9, h1]; rfl
 have q2 : (L.map Prod.fst)[c]? = some k := by rw [Zl9, h2]; rfl
 exact (List.getElem?_inj (by simpa using l1) h).1 (q1.trans q2.symm)
theorem Qqt (p : Nat -> Nat -> Bool) (v : V) (hv : v.refs p = false) : ∀ (l : List V) (i : Nat), Qx p l = false -> Qx p (l.set i v) = false
 | [], i, _ => rfl
 | x :: l, 0, h => by simp only [Qx, Zl3] at h; simp only [List.set_cons_zero, Qx, hv, h.2, Bool.or_self]
 | x :: l, i + 1, h => by simp only [Qx, Zl3] at h; simp only [List.set_cons_succ, Qx, h.1, Qqt p v hv l i h.2, Bool.or_self]
theorem Qfn (p : Nat -> Nat -> Bool) (L : List (Int × V)) (hL : ∀ (b : Nat) (k : Int) (v : V), L[b]? = some (k, v) -> v.refs p = false) : ∀ (seen : List Nat) (rv : List V), Qx p rv = false -> Qx p (Z7 L seen rv) = false
 | [], rv, h => h
 | b :: seen, rv, h => by
   show Qx p (Z7 L seen (Qb0 L rv b)) = false
   refine Qfn p L hL seen _ ?_
   unfold Qb0
   split
   . rename_i k v hk
     exact Qqt p v (hL b k v hk) rv _ h
   . exact h
theorem Qhs {rv : List V} {r : Nat -> List V} (hl : rv.length = 256) (hr : ∀ i, i < 256 -> ∃ f, rv[i]? = some (.iS (r i) 256 f)) (p : Nat -> Nat -> Bool) : Qx p rv = false := by
 have : ∀ l : List V, (∀ x ∈ l, x.refs p = false) -> Qx p l = false := by
  intro l
  induction l with
  | nil => intro _; rfl
  | cons x l ih => intro h; simp only [Qx, h x (by simp), ih (fun y hy => h y (by simp [hy])), Bool.or_self]
 refine this rv fun x hx => ?_
 obtain ⟨i, hi⟩ := Zk3.1 hx
 have : i < 256 := by rw [<- hl]; exact (Zk2.1 hi).1
 obtain ⟨f, hf⟩ := hr i this
 rw [hi] at hf; cases hf; rfl
theorem Q8a (rv : List V) (fl : Bool) (r : Nat -> List V) (hl : rv.length = 256) (hr : ∀ i, i < 256 -> ∃ f, rv[i]? = some (.iS (r i) 256 f)) (hrow : ∀ i, i < 256 -> J4 (r i)) (wv : V) (cs : List V) (n : Nat) (hv : Zn 2 wv cs n) (hn : n <= 4096) (a : Nat -> Int) (dv : Nat -> V)
 (hwait : ∀ j, j < n -> cs[2 * j]? = some (.int .i64 (a j)) /\ cs[2 * j + 1]? = some (dv j)) (ha : ∀ j, j < n -> 0 <= a j /\ a j < 256) (hdv : ∀ j, j < n -> ∃ c fl, dv j = .iS c 256 fl /\ J4 c)
 (r' : Nat -> List V) (hr' : ∀ i, i < 256 -> ∃ f, (Z7 (Kx a dv n) (List.range (Kx a dv n).length) rv)[i]? = some (.iS (r' i) 256 f)) (hrow' : ∀ i, i < 256 -> J4 (r' i)) (sv : V) (hso : sv = .func (.func 168) [] [] \/ n = 0) (hsr : ∀ p, sv.refs p = false) :
 Fz Tryz.prog Qz 30 [.agg [.iS rv 256 fl, wv], sv] fun x => x = encD r' (fun _ => 0) (fun _ => []) 0 := by
 refine Jt Tryz.func30 rfl ?_
 have wsc : wv.scalar = true := Qid hv
 have hsc : rv.all V.scalar = true := by
  rw [Zkj]; intro x hx
  obtain ⟨i, hi⟩ := Zk3.1 hx
  have : i < 256 := by rw [<- hl]; exact (Zk2.1 hi).1
  obtain ⟨f, hf⟩ := hr i this
  rw [hi] at hf; cases hf; rfl
 have hpu : Qk rv = true := by
  have : ∀ l : List V, (∀ x ∈ l, x.pure = true) -> Qk l = true := by
   intro l
   induction l with
   | nil => intro _; rfl
   | cons x l ih => intro h; simp only [Qk, h x (by simp), ih (fun y hy => h y (by simp [hy])), Bool.and_self]
  refine this rv fun x hx => ?_
  obtain ⟨i, hi⟩ := Zk3.1 hx
  have : i < 256 := by rw [<- hl]; exact (Zk2.1 hi).1
  obtain ⟨f, hf⟩ := hr i this
  rw [hi] at hf; cases hf; rfl
 have cl := Q03 rv fl hl hsc hpu 30 0 9 [[(2, .cells [.iS rv 256 fl, wv]), (4, .cells [.nS, .nS])]] rfl
 have wcl := hv.cells1
 have hK1 : WF [[(2, O.cells [.mS 0 9 0 256 none 1, wv]), (4, .cells [.nS, .nS]), (9, .cells rv)]] := by
  have q : (fun f _ => Nat.ble 1 f) 0 9 = false := rfl
  have rr : Qx (fun f _ => Nat.ble 1 f) rv = false := Qhs hl hr _
  simp only [WF, Zi, Zo, orc, Qx, V.refs, hv.noRefs, rr, Zj9, Zlg]
  rfl
 obtain ⟨rr, KK, hlast, rfl, rfl⟩ := Q3o [[(2, .cells [.mS 0 9 0 256 none 1, wv]), (4, .cells [.nS, .nS]), (9, .cells rv)]] hK1 (.mS 0 9 0 256 none 1) wv rfl rfl cs n hv hn a dv hwait (fun j hj => by obtain ⟨c, f, e, _⟩ := hdv j hj; exact ⟨c, f, e⟩) sv hso hsr
 have hlast' : callOp Qz (Q5 Tryz.prog Qz) 30 0 (some 15) 91 [.agg [.mS 0 9 0 256 none 1, wv], sv] [[(2, .cells [.mS 0 9 0 256 none 1, wv]), (4, .cells [.nS, .nS]), (9, .cells rv)]] =
  some (.ret (.map 1 8), [[(2, .cells [.mS 0 9 0 256 none 1, wv]), (4, .cells [.nS, .nS]), (9, .cells rv)], laF (.mS 0 9 0 256 none 1) wv (Kx a dv n)]) := Kq rfl rfl rfl hlast
 generalize hL : Kx a dv n = L at hlast' hr' 
 have hLk : ∀ (b : Nat) (k : Int) (v : V), L[b]? = some (k, v) -> (0 <= k /\ k < 256) /\ ∃ c fl, v = .iS c 256 fl /\ J4 c := by
  intro b k v h
  rw [<- hL] at h
  obtain ⟨j, hj, e⟩ := Qh0 a dv n (k, v) (List.mem_of_getElem? h)
  cases e
  exact ⟨ha j hj, hdv j hj⟩
 have hFr : ∀ p : Nat -> Nat -> Bool, p 0 9 = false -> Zo p (laF (.mS 0 9 0 256 none 1) wv L) = true := fun p hp => by
  have mr := Qqb p L (fun x hx => by
   obtain ⟨b, hb⟩ := Zk3.1 hx
   obtain ⟨_, c, f, e, _⟩ := hLk b x.1 x.2 hb
   rw [e]; rfl)
  simp only [laF, Zo, orc, Qx, V.refs, hv.noRefs, mr, hp]
  rfl
 generalize hFL : laF (.mS 0 9 0 256 none 1) wv L = FL at hlast' hFr
 simp only [Qn, Qf, Qg, Ql, Qa, Qc, nov, gd, rho, Qe, wr, simprocAttr, Qi, ↓Qh, Tryz.ntmps30, ta, new, Qb, hset, Qu, Qs, Qp, splice, zerosN, Qo, Qq, Qk, V.pure, Qr, wsc, wcl, cl, hlast']
 refine W.opsT (by kernel_rfl) ?_
 have g8 : ∀ F : AM.Frame, Qb [F, FL] 1 8 = some (Qhr L) := fun F => by rw [<- hFL]; rfl
 have rg : rangeV Tryz.prog (Qb [[(2, O.cells [.mS 0 9 0 256 none 1, wv]), (4, .cells [.nS, .nS]), (9, .cells rv)], FL]) 0 (some 16) 133 (.map 1 8) = some (.val (.ptr 0 16 0) (some (0, 16, .iter (some (1, 8)) L.length [] L.length))) := by
  have n16 : Qb [[(2, O.cells [.mS 0 9 0 256 none 1, wv]), (4, .cells [.nS, .nS]), (9, .cells rv)], FL] 0 16 = none := rfl
  simp only [rangeV, Tryz.underlying133, g8, Qhr, new, n16]
 have lr : ∀ b ∈ List.range L.length, b < L.length := fun b hb => Zlm.1 hb
 simp only [Qn, Qf, Qg, Ql, Qa, Qc, nov, gd, rho, Qe, wr, simprocAttr, Qi, ↓Qh, Tryz.ntmps30, ta, new, Qb, hset, Qu, Qs, Qp, splice, zerosN, Qo, Qq, Qk, V.pure, Qr, wsc, wcl, cl, hlast', rg]
 refine W.ul ?_
 have hLd : ∀ (b c : Nat) (k : Int) (v w : V), L[b]? = some (k, v) -> L[c]? = some (k, w) -> b = c := by
  rw [<- hL]; exact Ql0 (Qer a dv n)
 refine W.range (d := some 17) (k := _) rfl rfl (.exit 0, ((Qi7 (.ptr 0 2 0) (.ptr 0 4 0) (.ptr 0 16 0)).set 17 (.tuple [.bool false])).set 18 (.bool false), [[(2, O.cells [.mS 0 9 0 256 none 1, wv]), (4, .cells [.nS, .nS]), (9, .cells (Z7 L (List.range L.length) rv)), (16, .dead)], FL])
  (fun (seen : List Nat) t H => Bu [2, 4, 16] t 0 = Qi7 (.ptr 0 2 0) (.ptr 0 4 0) (.ptr 0 16 0) /\ ∃ F, H = [F, FL] /\ (F = lfF wv (Z7 L seen rv) L.length seen \/ ∃ y, F = lfF' wv (Z7 L seen rv) L.length seen y))
  (fun seen => (Yz seen (L.map ent) (List.range L.length)).length) ?_ [] ⟨rfl, _, rfl, .inl rfl⟩ ?_
 . rintro seen t H ⟨ht, F, rfl, hF⟩
   have hd : [F, FL].modify 0 (J8 fun s => [6].contains s) = [lfF wv (Z7 L seen rv) L.length seen, FL] := by
    rcases hF with rfl | ⟨y, rfl⟩ <;> rfl
   obtain ⟨cs, hcs, hall⟩ := Q0e (g := Qb [lfF wv (Z7 L seen rv) L.length seen, FL]) (f := 0) (s := 16) rfl (g8 _) lr (Zjw _)
   refine ⟨_, _, cs, Ye (kt := [2, 4, 16]) (ds := [6]) rfl ?_ ?_, ?_, fun d hd2 => ?_⟩
   . rw [ht]; simp [Qi7, Qx, V.refs]
   . rw [show ([F, FL].modify 0 (J8 fun s => [6].contains s)) = _ from hd]
     have yr : Qx (fun f s => f == 0 && [6].contains s) (Z7 L seen rv) = false := by
      refine Qfn _ L (fun b k v h => ?_) seen rv (Qhs hl hr _)
      obtain ⟨_, c, f, e, _⟩ := hLk b k v h
      rw [e]; rfl
     simp only [lfF, Zi, hFr (fun f s => f == 0 && [6].contains s) rfl, Zo, orc, Qx, V.refs, hv.noRefs, yr]
     rfl
   . rw [ht]; rw [show ([F, FL].modify 0 (J8 fun s => [6].contains s)) = _ from hd]; exact hcs
   . rw [ht, hd]
     rcases hall d hd2 with ⟨hnil, rfl⟩ | ⟨⟨e, b⟩, he, rfl⟩
     . simp only [Qi7, lfF]
       have eA : Z7 L seen rv = Z7 L (List.range L.length) rv := by
        refine Qxj L hLd (fun b k v h => (hLk b k v h).1.1) seen (fun b hb => ?_) rv (fun b k v h => by have := (hLk b k v h).1; omega)
        rw [Zkb] at hnil
        have := Qpr seen (L.map ent) 0 (by rw [List.length_map]; exact hnil) b (by omega) (by rw [List.length_map]; omega)
        exact this
       rw [eA]
       simp only [Qn, Qf, Qg, Ql, Qa, Qc, nov, gd, rho, Qe, wr, simprocAttr, Qi, ↓Qh, new, Qb, hset, Qu, Qs, Qp, splice, zerosN, Qo, Qq, Qk, V.pure, Qr]
       exact W.done rfl
     . simp only [Qi7, lfF]
       have he2 := he
       rw [Zkb] at he2
       obtain ⟨_, hb1, hb2⟩ := Qqa seen (L.map ent) 0 (e, b) (by rw [List.length_map]; exact he2)
       simp only [Nat.sub_zero, Zl9] at hb1
       obtain ⟨⟨k, v⟩, hb3, rfl⟩ := Zk7.1 hb1
       obtain ⟨⟨k0, k1⟩, c, cf, rfl, hc⟩ := hLk b k v hb3
       have less := Qht seen ((ent (k, .iS c 256 cf)), b) _ _ he
       simp only [ent]
       have hA : (Z7 L seen rv).length = 256 := by rw [Qao]; exact hl
       have eS := Qul L seen b rv k _ hb3
       have eB : Qbg b (L.map ent) (List.range L.length) = some (.int .i64 k, .agg [.int .i64 k, .iS c 256 cf]) := by
        have := Qlr b (L.map ent) 0 (by omega)
        rw [List.length_map, <- Zkb, Nat.sub_zero, Zl9, hb3] at this
        exact this
       have gl : (seen ++ [b]).getLast? = some b := by simp
       generalize Z7 L seen rv = y at hA eS ⊢
       have en : Qal (Qb [[(2, O.cells [.mS 0 9 0 256 none 1, wv]), (4, .cells [.nS, .nS]), (9, .cells y), (16, .iter (some (1, 8)) L.length (seen ++ [b]) L.length)], FL]) (.ptr 0 16 0) = some (.tuple [.int .i64 k, .agg [.int .i64 k, .iS c 256 cf]]) := by
        have n16 : Qb [[(2, O.cells [.mS 0 9 0 256 none 1, wv]), (4, .cells [.nS, .nS]), (9, .cells y), (16, .iter (some (1, 8)) L.length (seen ++ [b]) L.length)], FL] 0 16 = some (.iter (some (1, 8)) L.length (seen ++ [b]) L.length) := rfl
        simp only [Qal, n16, g8, Qhr, gl, eB, if_true, Zjs]
       generalize eS2 : seen ++ [b] = seen2 at *
       have at1 := at_m (P := Tryz.prog) (f := 0) (s := 9) (o := 0) (cap := none) (k := .i64) Tryz.underlying22 Qje (len := 256) k0 (i := k) (by omega)
       have kl : k.toNat + 1 <= y.length := by omega
       have es : y.take k.toNat ++ [.iS c 256 cf] ++ y.drop (k.toNat + 1) = Z7 L seen2 rv := by
        rw [eS, List.set_eq_take_append_cons_drop, if_pos (by omega), Zmd]; rfl
       simp only [Qn, Qf, Qg, Ql, Qa, Qc, nov, gd, rho, Qe, wr, simprocAttr, Qi, ↓Qh, Tryz.ntmps30, ta, new, Qb, hset, Qu, Qs, Qp, splice, zerosN, Qo, Qq, Qk, V.pure, Qr, en, at1, if_pos kl, es]
       exact W.done ⟨seen2, ⟨rfl, _, rfl, .inr ⟨_, rfl⟩⟩, less⟩
 . have yr : ∀ p : Nat -> Nat -> Bool, Qx p (Z7 L (List.range L.length) rv) = false := fun p => by
    refine Qfn _ L (fun b k v h => ?_) _ rv (Qhs hl hr _)
    obtain ⟨_, c, f, e, _⟩ := hLk b k v h
    rw [e]; rfl
   have yl : (Z7 L (List.range L.length) rv).length = 256 := by rw [Qao]; exact hl
   generalize Z7 L (List.range L.length) rv = y at hr' yr yl ⊢
   have hK2 : WF [[(2, O.cells [.mS 0 9 0 256 none 1, .nS]), (4, .cells [.nS, .nS]), (9, .cells y), (16, .dead)], FL] := by
    have q := hFr (fun f _ => Nat.ble (0 + 1 + 1) f) rfl
    simp only [WF, Zi, q, Zo, orc, Qx, V.refs, yr, Zj9, Zlg]
    rfl
   have hb : Ql2 [[(2, O.cells [.mS 0 9 0 256 none 1, .nS]), (4, .cells [.nS, .nS]), (9, .cells y), (16, .dead)], FL] (.mS 0 9 0 256 none 1) r' := by
    refine ⟨fun g => ?_, ⟨fun i => .ptr 0 9 i, fun i => y.getD i .bad, fun i hi => ?_, fun i hi G => ?_, fun i hi => ?_⟩, hrow', rfl, rfl, rfl⟩
    . simp only [Y5, Tryz.underlying22]
      rfl
    . have := at_m (P := Tryz.prog) (f := 0) (s := 9) (o := 0) (cap := none) (k := .i64) Tryz.underlying22 Qje (len := 256) (i := (i : Int)) (by omega) (by omega)
      rw [this]
      have e : 0 + (i : Int).toNat * 1 = i := by omega
      rw [e]
    . obtain ⟨f, hf⟩ := hr' i hi
      show Q2 Tryz.prog 26 y i = _
      rw [rd26, hf]
      simp [List.getD, hf]
    . obtain ⟨f, hf⟩ := hr' i hi
      exact ⟨f, by simp [List.getD, hf]⟩
   obtain ⟨rr, KK, tw, rfl, rfl⟩ := Qzi _ hK2 (.mS 0 9 0 256 none 1) .nS r' hb [] 0 Zn.nil (by omega) (fun _ => 0) (fun _ => []) (fun j hj => by omega) (fun j hj => by omega)
   have tw' := Kq (fn := 30) (fr := 0) (d := some 30) rfl rfl rfl tw
   simp only [Qi7, List.set_cons_succ, List.set_cons_zero]
   have zl : (zerosN [V.int .u8 0] 65536).length = 65536 := Qbj _ _
   simp only [Y6, if_true] at tw'
   generalize zerosN [V.int .u8 0] 65536 = Z at tw' zl
   have fz := fun HH hg => Qln 2 HH r' Z (fun _ => 0) (fun _ => []) 0 hrow' zl hg
   simp only [Zj9, Zlg, Nat.reduceAdd, Y6, if_true] at tw' fz
   generalize hF3 : ([(20, .cells (Xq r' Z 256)), (33, .grow 256)] : AM.Frame) = F3 at tw'
   generalize Qih _ _ _ _ 0 = F2 at tw'
   simp only [Zle, Zlh] at tw'
   have fz2 := fun F0 => fz [F0, FL, F2, F3] (by rw [<- hF3]; rfl)
   clear fz hF3
   generalize Yr 3 256 = R0 at tw' fz2
   simp only [Qn, Qf, Qg, Ql, Qa, Qc, nov, gd, rho, Qe, wr, simprocAttr, Qi, ↓Qh, Tryz.ntmps30, ta, new, Qb, hset, Qu, Qs, Qp, splice, zerosN, Qo, Qq, Qk, V.pure, Qr, tw']
   refine W.done ?_
   exact Zu.ret (v := .agg [.gS 3 33 R0 256 1, .nS]) rfl (fz2 _) rfl
end
section
set_option maxRecDepth 100000
open Go.AM Go.AM.BM
attribute [local irreducible] U W
theorem Qqw {v : V} (h : Qyi v = true) : ∃ c f, v = .iS c 256 f /\ J4 c := by
 cases v with
 | iS c n f =>
   simp only [Qyi, Zki] at h
   obtain ⟨h1, h2, h3⟩ := h
   cases Zmb h1
   replace h2 := Zmb h2
   refine ⟨c, f, rfl, h2, ?_⟩
   rw [<- h3]; congr 1
 | _ => cases h
theorem Qg8 {bv : V} {rv : List V} (h : Qis bv = some rv) : ∃ fl, bv = .iS rv 256 fl /\ rv.length = 256 /\ (∀ i, i < 256 -> ∃ f, rv[i]? = some (.iS (Qoy (rv.getD i .bad)) 256 f)) /\ ∀ i, i < 256 -> J4 (Qoy (rv.getD i .bad)) := by
 cases bv with
 | iS xs n f =>
   simp only [Qis] at h
   split at h
   case isFalse => cases h
   rename_i hc
   cases h
   simp only [Zki, Zkj] at hc
   obtain ⟨⟨h1, h2⟩, h3⟩ := hc
   cases Zmb h1
   replace h2 := Zmb h2
   have key : ∀ i, i < 256 -> ∃ c g, rv[i]? = some (.iS c 256 g) /\ rv.getD i .bad = .iS c 256 g /\ J4 c := fun i hi => by
    have hl : i < rv.length := by omega
    obtain ⟨c, g, e, hr⟩ := Qqw (h3 rv[i] (List.getElem_mem hl))
    have e1 : rv[i]? = some (.iS c 256 g) := by rw [Zjr hl, e]
    exact ⟨c, g, e1, by simp [List.getD, e1], hr⟩
   refine ⟨f, rfl, h2, fun i hi => ?_, fun i hi => ?_⟩
   . obtain ⟨c, g, e1, e2, _⟩ := key i hi
     exact ⟨g, by rw [e1, e2]; rfl⟩
   . obtain ⟨c, g, _, e2, hr⟩ := key i hi
     rw [e2]; exact hr
 | _ => cases h
theorem Qnt : ∀ (cs : List V) (j : Nat), Qck cs = true -> 2 * j + 1 < cs.length -> ∃ a c f, cs[2 * j]? = some (.int .i64 a) /\ 0 <= a /\ a < 256 /\ cs[2 * j + 1]? = some (.iS c 256 f) /\ J4 c
 | [], j, _, h => by simp at h
 | [x], j, _, h => by simp at h
 | x :: v :: r, j, h, hl => by
   unfold Qck at h
   split at h
   . rename_i e; cases e
   . rename_i a v' r' e
     cases e
     simp only [Zki, decide_eq_true_eq] at h
     obtain ⟨⟨⟨h1, h2⟩, h3⟩, h4⟩ := h
     cases j with
     | zero =>
       obtain ⟨c, f, rfl, hc⟩ := Qqw h3
       exact ⟨a, c, f, rfl, h1, h2, rfl, hc⟩
     | succ j =>
       obtain ⟨b, c, f, q1, q2, q3, q4, q5⟩ := Qnt r j h4 (by simp only [Zj9] at hl; omega)
       exact ⟨b, c, f, by rw [show 2 * (j + 1) = 2 * j + 1 + 1 by omega]; simpa using q1, q2, q3, by rw [show 2 * (j + 1) + 1 = 2 * j + 1 + 1 + 1 by omega]; simpa using q4, q5⟩
   . cases h
def waA (cs : List V) (j : Nat) : Int := match cs.getD (2 * j) .bad with
 | .int _ a => a
 | _ => 0
def waD (cs : List V) (j : Nat) : List V := Qoy (cs.getD (2 * j + 1) .bad)
theorem Qi9 {wv : V} {cs : List V} {n : Nat} (h : Qhd wv = some (cs, n)) : Zn 2 wv cs n /\ n <= 4096 /\ (∀ j, j < n -> cs[2 * j]? = some (.int .i64 (waA cs j)) /\ ∃ fl, cs[2 * j + 1]? = some (.iS (waD cs j) 256 fl)) /\ (∀ j, j < n -> 0 <= waA cs j /\ waA cs j < 256) /\ ∀ j, j < n -> J4 (waD cs j) := by
 have key : ∀ cs n, Qck cs = true -> cs.length = n * 2 -> (∀ j, j < n -> cs[2 * j]? = some (.int .i64 (waA cs j)) /\ ∃ fl, cs[2 * j + 1]? = some (.iS (waD cs j) 256 fl)) /\ (∀ j, j < n -> 0 <= waA cs j /\ waA cs j < 256) /\ ∀ j, j < n -> J4 (waD cs j) := fun cs n h hl => by
  have q : ∀ j, j < n -> ∃ f, cs[2 * j]? = some (.int .i64 (waA cs j)) /\ cs[2 * j + 1]? = some (.iS (waD cs j) 256 f) /\ (0 <= waA cs j /\ waA cs j < 256) /\ J4 (waD cs j) := fun j hj => by
   obtain ⟨a, c, f, q1, q2, q3, q4, q5⟩ := Qnt cs j h (by omega)
   have e1 : waA cs j = a := by simp [waA, List.getD, q1]
   have e2 : waD cs j = c := by simp [waD, List.getD, q4, Qoy]
   rw [e1, e2]
   exact ⟨f, q1, q4, ⟨q2, q3⟩, q5⟩
  exact ⟨fun j hj => by obtain ⟨f, q1, q2, _⟩ := q j hj; exact ⟨q1, f, q2⟩, fun j hj => by obtain ⟨f, _, _, q, _⟩ := q j hj; exact q, fun j hj => by obtain ⟨f, _, _, _, q⟩ := q j hj; exact q⟩
 cases wv with
 | nS =>
   cases h
   exact ⟨Zn.nil, by omega, fun j hj => by omega, fun j hj => by omega, fun j hj => by omega⟩
 | iS xs m f =>
   simp only [Qhd] at h
   split at h
   case isFalse => cases h
   rename_i hc
   cases h
   simp only [Zki] at hc
   obtain ⟨⟨h1, h2⟩, h3⟩ := hc
   replace h1 := Zmb h1
   replace h2 := Zlt h2
   exact ⟨Zn.mk h1, h2, key _ _ h3 h1⟩
 | _ => cases h
theorem Qgw (x v : V) : ∀ (l : List V) (i : Nat), l.length = 2 * i -> Qdc (l ++ [x, v]) = Qdc l ++ [x, BM.newRow false v]
 | [], _, _ => rfl
 | [y], i, h => by simp at h; omega
 | y :: z :: l, i, h => by
   show y :: BM.newRow false z :: Qdc (l ++ [x, v]) = _
   rw [Qgw x v l (i - 1) (by simp only [Zj9] at h; omega)]; rfl
theorem Qfg (cs : List V) (n : Nat) (hl : cs.length = n * 2) (h : ∀ j, j < n -> cs[2 * j]? = some (.int .i64 (waA cs j)) /\ ∃ fl, cs[2 * j + 1]? = some (.iS (waD cs j) 256 fl)) : ∀ i, i <= n -> Qa8 (waA cs) (waD cs) i = Qdc (cs.take (2 * i))
 | 0, _ => rfl
 | i + 1, hi => by
   obtain ⟨q1, f, q2⟩ := h i (by omega)
   obtain ⟨l1, g1⟩ := Zk2.1 q1
   obtain ⟨l2, g2⟩ := Zk2.1 q2
   have e : cs.take (2 * (i + 1)) = cs.take (2 * i) ++ [.int .i64 (waA cs i), .iS (waD cs i) 256 f] := by
    rw [show 2 * (i + 1) = 2 * i + 1 + 1 by omega, List.take_succ_eq_append_getElem l2, List.take_succ_eq_append_getElem l1, g1, g2, Zmd]; rfl
   rw [e, Qgw _ _ _ i (by rw [Zl6]; omega), <- Qfg cs n hl h i (by omega), Qci]; rfl
theorem Qm3 (rv cs : List V) (n : Nat) (hr : rv.length = 256) (hl : cs.length = n * 2) (h : ∀ j, j < n -> cs[2 * j]? = some (.int .i64 (waA cs j)) /\ ∃ fl, cs[2 * j + 1]? = some (.iS (waD cs j) 256 fl)) :
 encD (fun i => Qoy (rv.getD i .bad)) (waA cs) (waD cs) n = Qr1 rv cs n := by
 have e1 : ((List.range 256).map fun j => V.iS (Qoy (rv.getD j .bad)) 256 true) = rv.map (BM.newRow true) := by
  apply Zk9
  intro i
  by_cases hi : i < 256
  . rw [Zl9, Zl9, List.getElem?_range hi, Zjr (by omega)]
    simp [BM.newRow, List.getD, Zjr (show i < rv.length by omega)]
  . rw [Zju (by simp; omega), Zju (by simp; omega)]
 have e2 := Qfg cs n hl h n (Zjw n)
 rw [Zmg (by omega)] at e2
 simp only [encD, Qr1, e1, e2]
theorem Q4o (ys : List V) (v : V) (h : Qza ys = some v) : Fz Tryz.prog Qz 92 ys (· = v) := by
 unfold Qza at h
 split at h
 case h_2 => cases h
 rename_i bv wv
 split at h
 case h_2 => cases h
 rename_i rv cs n hb hw
 cases h
 obtain ⟨fl, rfl, h1, h2, h3⟩ := Qg8 hb
 obtain ⟨w1, w2, w3, w4, w5⟩ := Qi9 hw
 have := Q7f rv fl _ h1 h2 h3 wv cs n w1 w2 (waA cs) (waD cs) w3 w5
 rw [Qm3 rv cs n h1 w1.1 w3] at this
 exact this
theorem Q57 (ys : List V) (v : V) (h : kNew ys = some v) : Fz Tryz.prog Qz 153 ys (· = v) := by
 unfold kNew at h
 split at h
 case h_2 => cases h
 cases h
 exact new_fz
end
section
set_option maxRecDepth 100000
open Go.AM Go.AM.BM
attribute [local irreducible] U W
theorem Qz6 : CW Tryz.prog Qz 79 [.agg [.nS, .nS]] [] fun x _ => x = .ret (.int .i64 8) := by
 refine Xr Tryz.func79 rfl ?_
 have l1 : ∀ g, Y5 Tryz.prog g 22 .nS = some (.int .i64 0) := fun g => Zn.nil (esz := 1) |>.len Tryz.underlying22 g
 have l2 : ∀ g, Y5 Tryz.prog g 23 .nS = some (.int .i64 0) := fun g => Zn.nil (esz := 2) |>.len Tryz.underlying23 g
 simp only [Qn, Qf, Qg, Ql, Qa, Qc, nov, gd, rho, Qe, wr, simprocAttr, Qi, ↓Qh, Tryz.ntmps79, ta, new, Qb, hset, Qu, Qs, Qp, splice, zerosN, Qo, Qq, Qk, V.pure, Qr, l1, l2]
 refine W.ul ?_
 refine W.loopS (kt := [1, 3, 19, 20, 21]) rfl (fun _ : Nat => Qrd (.ptr 0 1 0) (.bool false) .nS (.int .i64 0) (.int .i64 0)) (fun _ => [[(1, .cells [.nS, .nS])]]) (fun _ => True) (fun i => i) ?_ 0 trivial rfl rfl
 rintro i hi
 simp only [Qrd]
 simp only [Qn, Qf, Qg, Ql, Qa, Qc, nov, gd, rho, Qe, wr, simprocAttr, Qi, ↓Qh]
 refine W.done ?_
 simp only [Qn, Qf, Qg, Ql, Qa, Qc, nov, gd, rho, Qe, wr, simprocAttr, Qi, ↓Qh, ta, new, Qb, hset, Qu, Qs, Qp, splice, zerosN, Qo, Qq, Qk, V.pure, Qr, l1, l2]
 refine W.ul ?_
 refine W.loop (fun (_ : Nat) t H => Bu [3, 33, 34, 35] t 0 = Qnr (.bool false) .nS (.int .i64 0) (.int .i64 0) /\ H = [[(1, .cells [.nS, .nS])]]) (fun i => i) ?_ 0 ⟨rfl, rfl⟩ rfl
 rintro i t H ⟨ht, rfl⟩
 have hd : ([[(1, .cells [.nS, .nS])]] : Heap).modify 0 (J8 fun s => [7].contains s) = [[(1, .cells [.nS, .nS])]] := rfl
 refine ⟨_, _, Ye (kt := [3, 33, 34, 35]) (ds := [7]) rfl ?_ ?_, ?_⟩
 . rw [ht]; rfl
 . rw [hd]; rfl
 rw [ht, hd]
 simp only [Qnr]
 simp only [Qn, Qf, Qg, Ql, Qa, Qc, nov, gd, rho, Qe, wr, simprocAttr, Qi, ↓Qh]
 refine W.done ?_
 simp only [Qn, Qf, Qg, Ql, Qa, Qc, nov, gd, rho, Qe, wr, simprocAttr, Qi, ↓Qh]
 exact W.done (End.ret (v := .int .i64 8) rfl rfl)
theorem Qqu (ys : List V) (v : V) (h : Qod ys = some v) : FzN Tryz.prog Qz 79 ys v := by
 unfold Qod at h
 split at h
 case h_3 => cases h
 . cases h
   obtain ⟨r, H, e, rfl⟩ := Qz6
   exact ⟨_, _, e, rfl⟩
 . rename_i bv wv _
   split at h
   case h_2 => cases h
   rename_i rv cs hb hw
   obtain ⟨cs, n⟩ := cs
   cases h
   obtain ⟨fl, rfl, h1, h2, h3⟩ := Qg8 hb
   obtain ⟨w1, w2, w3, w4, w5⟩ := Qi9 hw
   obtain ⟨r, H, e, rfl⟩ := Q42 rv fl _ h1 h2 wv cs n w1 w2 (waA cs) (waD cs) w3 w4
   exact ⟨_, _, e, rfl⟩
end
end Go.Proofs.YtgnnlchhfiomgaaGreatDoor
