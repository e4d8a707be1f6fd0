/- This file holds in one the texts Bf6, Bx30, Bx31, Bx32, Bx34; each says at its head what it proves. -/
import Derived.Test.YteagpfbdmiihaaaGreatDoorT22
import Derived.Test.YteagpfbdmiihaaaGreatDoorT25
set_option linter.unusedSimpArgs false
set_option linter.unusedVariables false
section
namespace Go.AM.BM
section
variable {P : Program} {pol : Pol} {n : Nat}
theorem Qqx {x : FO} {o : Out} {k : TM -> FH -> FO} {Kd : List V -> Heap -> Out} (h : RO n x o) (hk : ∀ T t F H, RT n T t -> RH F H -> RO n (k T F) (Kd t H)) :
 RO n (seqK x k) (Qg6 Kd o) := by
 cases x with
 | no => trivial
 | nrm T F => obtain ⟨t, H, rfl, h1, h2⟩ := h; exact hk _ _ _ _ h1 h2
 | exi i T F => obtain ⟨t, H, rfl, h1, h2⟩ := h; exact ⟨t, H, rfl, h1, h2⟩
 | ret T F => obtain ⟨t, H, rfl, h1, h2⟩ := h; exact ⟨t, H, rfl, h1, h2⟩
 | pan v T F => obtain ⟨t, H, rfl, h1, h2⟩ := h; exact ⟨t, H, rfl, h1, h2⟩
theorem Qni {body : TM -> FH -> FO} {bd : Kb} (hb : ∀ T t F H, RT n T t -> RH F H -> RO n (body T F) (bd t H)) : ∀ (m : Nat) T t F H, RT n T t -> RH F H -> RO n (Qqk body m T F) (Zs bd m t H)
 | 0, _, _, _, _, _, _ => trivial
 | m + 1, T, t, F, H, hT, hF => by
   have := Qqx (hb T t F H hT hF) (k := Qqk body m) (Kd := Zs bd m) (fun T t F H h1 h2 => Qni hb m T t F H h1 h2)
   exact this
def Q4h (id : Nat) (o : Out) : Out := match o with
    | some (.exit i, t, H) => if i = id then some (.normal, t, H) else some (.exit i, t, H)
    | r => r
theorem Q2f {v : V} {a b : FO} {oa ob : Out} (ha : RO n a oa) (hb : RO n b ob) : RO n (Qqh v a b) (match v with
 | .bool q => if q then oa else ob
 | _ => none) := by
 simp only [Qqh, Qv8]
 cases v with
 | bool q =>
   cases q with
   | true => exact ha
   | false => exact hb
 | _ => trivial
theorem Q0j {id : Nat} {x : FO} {o : Out} (h : RO n x o) : RO n (Q4b id x) (Q4h id o) := by
 cases x with
 | no => trivial
 | nrm T F => obtain ⟨t, H, rfl, h1, h2⟩ := h; exact ⟨t, H, rfl, h1, h2⟩
 | exi i T F =>
   obtain ⟨t, H, rfl, h1, h2⟩ := h
   show RO n (Bool.rec (motive := fun _ => FO) (.exi i T F) (.nrm T F) (Nat.beq i id)) _
   rw [Qeg, Qgm]
   simp only [decide_eq_true_eq, Q4h]
   by_cases e : i = id
   . rw [if_pos e, if_pos e]; exact ⟨t, H, rfl, h1, h2⟩
   . rw [if_neg e, if_neg e]; exact ⟨t, H, rfl, h1, h2⟩
 | ret T F => obtain ⟨t, H, rfl, h1, h2⟩ := h; exact ⟨t, H, rfl, h1, h2⟩
 | pan v T F => obtain ⟨t, H, rfl, h1, h2⟩ := h; exact ⟨t, H, rfl, h1, h2⟩
theorem Qye {s : Nat} {T : TM} {t : List V} {F : FH} {H : Heap} (hT : RT n T t) (hF : RH F H) : RO n (Qne s T F) (Bl s t H) := by
 unfold Qne Bl
 rw [hF.tr]
 cases Qb H 0 s with
 | none => trivial
 | some o =>
   cases o with
   | loop st pend fn rid t0 =>
     simp only [Qgm]
     by_cases e : st = 1
     . rw [if_pos e]; simp only [e, decide_true, cond_true]; trivial
     . rw [if_neg e]
       simp only [e, decide_false, cond_false]
       cases pend with
       | none => exact ⟨t, _, rfl, hT, hF.set s .dead⟩
       | some j => cases j with
         | none => exact ⟨t, _, rfl, hT, hF.set s .dead⟩
         | some i => exact ⟨t, _, rfl, hT, hF.set s .dead⟩
   | _ => trivial
def Qbm (pol : Pol) : Prop := ∀ f r, pol.loop f r = none
variable {cc : FC} {C : Call} {fn : Nat}
theorem Qb3 (hl : Qbm pol) (hc : RC cc C) (m : Nat) (c : Code) :
 (∀ T t F H, RT n T t -> RH F H -> RO n ((comp P pol n fn c).1.f cc m T F) (Za P pol C (fun b => Zs b m) fn c t H)) /\
 (∀ v w T t F H, RT n T t -> RH F H -> RO n ((comp P pol n fn c).2.f cc m v w T F) (Z0 P pol C (fun b => Zs b m) fn c v w t H)) := by
 induction c with
 | skip => exact ⟨fun T t F H hT hF => ⟨t, H, by simp only [Za], hT, hF⟩, fun _ _ _ _ _ _ _ _ => trivial⟩
 | region id ops draw =>
   refine ⟨fun T t F H hT hF => ?_, fun v w T t F H hT hF => ?_⟩
   . simp only [Za]; exact Qyd hc ops draw hT hF
   . simp only [Z0]
     show RO n ((match ops.toList with
      | o :: r => (⟨fun cc _ v w T F => (Qtv P pol n ops r).f cc ((cP n o.dst).f T v) (wrF F w)⟩ : Box (FC -> Nat -> V -> Option (Nat × Nat × O) -> KT))
      | [] => ⟨fun _ _ _ _ _ _ => .no⟩).f cc m v w T F) _
     cases ops.toList with
     | nil => trivial
     | cons o r => exact Qef hc ops r (hT.put _ _) (hF.wr w)
 | seq a b iha ihb =>
   refine ⟨fun T t F H hT hF => ?_, fun v w T t F H hT hF => ?_⟩
   . simp only [Za]; exact Qqx (iha.1 T t F H hT hF) ihb.1
   . simp only [Z0]; exact Qqx (iha.2 v w T t F H hT hF) ihb.1
 | cond c a b iha ihb =>
   refine ⟨fun T t F H hT hF => ?_, fun _ _ _ _ _ _ _ _ => trivial⟩
   simp only [Za]
   have := Q2f (v := (cR n c).f T) (iha.1 T t F H hT hF) (ihb.1 T t F H hT hF)
   rw [hT.rho c] at this
   show RO n (Qqh ((cR n c).f T) ((comp P pol n fn a).1.f cc m T F) ((comp P pol n fn b).1.f cc m T F)) _
   rw [hT.rho c]
   exact this
 | block id b ihb =>
   refine ⟨fun T t F H hT hF => ?_, fun _ _ _ _ _ _ _ _ => trivial⟩
   simp only [Za]; exact Q0j (ihb.1 T t F H hT hF)
 | loop b ihb =>
   refine ⟨fun T t F H hT hF => ?_, fun _ _ _ _ _ _ _ _ => trivial⟩
   have hl' := hl fn (Zp b)
   simp only [Za, hl']
   show RO n ((match Zt b with
    | none => (⟨fun cc m T F => Qqk ((comp P pol n fn b).1.f cc m) m T F⟩ : Box CB)
    | some x => ⟨fun cc m T F => Qqk (fun T F => match Yt (Ks F) ((cR n x).f T) with
       | some [c] => (comp P pol n fn b).2.f cc m c.1 c.2 T F
       | _ => .no) m T F⟩).f cc m T F) _
   cases Zt b with
   | none => exact Qni ihb.1 m T t F H hT hF
   | some x =>
     refine Qni (fun T t F H hT hF => ?_) m T t F H hT hF
     simp only [hF.get, hT.rho]
     cases Yt (Qb H) (rho t x) with
     | none => trivial
     | some l =>
       match l with
       | [] => trivial
       | [c] => exact ihb.2 c.1 c.2 T t F H hT hF
       | _ :: _ :: _ => trivial
 | rangeFunc g ps a b iha ihb =>
   refine ⟨fun T t F H hT hF => ?_, fun _ _ _ _ _ _ _ _ => trivial⟩
   simp only [Za]
   show RO n (match (cR n g).f T with
    | .func (.func f) first cap => Qwo (cc (some f) (first ++ [.yield 0 F.next] ++ cap) (Qga F F.next (.loop 0 none fn (Zf a b) (toL T n 0)))) F.next T
    | _ => .no) _
   rw [hT.rho]
   cases rho t g with
   | func q first cap =>
     cases q with
     | func f =>
       have hn := hF.fresh
       rw [hF.tr] at hn
       simp only [hF.next, hn, toL_eq hT]
       have := hc (some f) (first ++ [.yield 0 F.next] ++ cap) _ _ (hF.set F.next (.loop 0 none fn (Zf a b) t))
       revert this
       cases cc (some f) (first ++ [.yield 0 F.next] ++ cap) (Qga F F.next (.loop 0 none fn (Zf a b) t)) with
       | no => intro _; trivial
       | ret v F' => rintro ⟨H', e, h'⟩; simp only [e, Qwo]; exact Qye hT h'
       | pan v F' => intro _; trivial
     | _ => trivial
   | _ => trivial
 | exit id => exact ⟨fun T t F H hT hF => ⟨t, H, by simp only [Za], hT, hF⟩, fun _ _ _ _ _ _ _ _ => trivial⟩
 | ret => exact ⟨fun T t F H hT hF => ⟨t, H, by simp only [Za], hT, hF⟩, fun _ _ _ _ _ _ _ _ => trivial⟩
 | _ => exact ⟨fun _ _ _ _ _ _ => trivial, fun _ _ _ _ _ _ _ _ => trivial⟩
theorem Q6o {T : TM} {t : List V} {F : FH} {H : Heap} (hT : RT n T t) (hF : RH F H) (x : ResultVar) : (resO P n x).f T F = Bv P t H x := by
 cases x with
 | tmp i => show some ((cR n (.tmp i)).f T) = _; rw [hT.rho]; rfl
 | cell a ty =>
   show (match (cR n (.tmp a)).f T with
   | .ptr f s o => (match Ks F f s with
     | some (.cells xs) => (Qvd P ty).f xs o
     | _ => none)
   | _ => none) = _
   rw [hT.rho, hF.get]
   simp only [Bv, rho]
   cases t.getD a .bad with
   | ptr f s o =>
     simp only
     cases Qb H f s with
     | none => rfl
     | some q => cases q <;> first | rfl | (simp only [Qtn])
   | _ => rfl
theorem Qy3 {T : TM} {t : List V} {F : FH} {H : Heap} (hT : RT n T t) (hF : RH F H) : ∀ l : List ResultVar, (Qyc P n l).f T F = Qfy P t H l
 | [] => rfl
 | x :: l => by
   show (match (resO P n x).f T F, (Qyc P n l).f T F with
    | some v, some vs => some (v :: vs)
    | _, _ => none) = _
   rw [Q6o hT hF x, Qy3 hT hF l]; rfl
theorem Qrd {T : TM} {t : List V} {F : FH} {H : Heap} (hT : RT n T t) (hF : RH F H) (Fn : Func) : RR (retK ((Qyc P n Fn.results.toList).f T F) F) (match Qa4 P Fn t H with
        | some v => some (.ret v, H)
        | none => none) := by
 rw [Qy3 hT hF]
 simp only [Qa4]
 cases Qfy P t H Fn.results.toList with
 | none => trivial
 | some l =>
   match l with
   | [] => exact ⟨H, rfl, hF⟩
   | [v] => exact ⟨H, rfl, hF⟩
   | _ :: _ :: _ => exact ⟨H, rfl, hF⟩
def RD (n : Nat) : FD -> Option (Ex × List V × Heap × List V) -> Prop
 | .ok (.nrm T F) ds, o => ∃ t H, o = some (.normal, t, H, ds) /\ RT n T t /\ RH F H
 | .ok (.ret T F) ds, o => ∃ t H, o = some (.ret, t, H, ds) /\ RT n T t /\ RH F H
 | _, _ => True
theorem Qud {x : FO} {o : Out} (h : RO n x o) : RD n x.plain (noD o) := by
 cases x with
 | nrm T F => obtain ⟨t, H, rfl, h1, h2⟩ := h; exact ⟨t, H, rfl, h1, h2⟩
 | ret T F => obtain ⟨t, H, rfl, h1, h2⟩ := h; exact ⟨t, H, rfl, h1, h2⟩
 | _ => trivial
theorem Qtp {fn : FuncId} (hl : Qbm pol) (hc : RC cc C) (m : Nat) : ∀ (c : Code) (T : TM) (t : List V) (F : FH) (H : Heap), RT n T t -> RH F H -> RD n (Qk9 P pol n fn cc m c T F) (Qcz P pol C (fun b => Zs b m) fn c t H) := by
 intro c
 induction c with
 | seq a b _ ihb =>
   intro T t F H hT hF
   simp only [Qk9, Qcz]
   cases hd : Qgs a with
   | some q =>
     obtain ⟨ops, l, d, x⟩ := q
     simp only
     have h1 := Qef (P := P) (pol := pol) (n := n) hc ops l hT hF
     revert h1
     cases (Qtv P pol n ops l).f cc T F with
     | nrm T1 F1 =>
       rintro ⟨t1, H1, e, hT1, hF1⟩
       rw [e]
       simp only
       rw [hT1.rho x]
       cases rho t1 x with
       | func f p q =>
         simp only
         have h2 := ihb _ _ _ _ (hT1.put d nov) hF1
         revert h2
         cases Qk9 P pol n fn cc m b ((cP n d).f T1 nov) F1 with
         | no => intro _; trivial
         | ok y ds =>
           cases y with
           | nrm T2 F2 => rintro ⟨t2, H2, e2, h3, h4⟩; rw [e2]; exact ⟨t2, H2, rfl, h3, h4⟩
           | ret T2 F2 => rintro ⟨t2, H2, e2, h3, h4⟩; rw [e2]; exact ⟨t2, H2, rfl, h3, h4⟩
           | _ => intro _; trivial
       | _ => trivial
     | _ => intro _; trivial
   | none =>
     simp only
     cases hn : (Q6 a).isEmpty with
     | true =>
       simp only [cond_true, if_true]
       have h1 := (Qb3 (P := P) (pol := pol) (n := n) (fn := fn) hl hc m a).1 T t F H hT hF
       revert h1
       cases (comp P pol n fn a).1.f cc m T F with
       | no => intro _; trivial
       | nrm T1 F1 => rintro ⟨t1, H1, e, hT1, hF1⟩; rw [e]; exact ihb _ _ _ _ hT1 hF1
       | exi i T1 F1 => intro _; trivial
       | ret T1 F1 => rintro ⟨t1, H1, e, hT1, hF1⟩; rw [e]; exact ⟨t1, H1, rfl, hT1, hF1⟩
       | pan v T1 F1 => intro _; trivial
     | false =>
       simp only [cond_false, Zkz, if_false]
       exact Qud ((Qb3 (P := P) (pol := pol) (n := n) (fn := fn) hl hc m (.seq a b)).1 T t F H hT hF)
 | _ =>
   intro T t F H hT hF
   simp only [Qk9, Qcz]
   exact Qud ((Qb3 (P := P) (pol := pol) (n := n) (fn := fn) hl hc m _).1 T t F H hT hF)
theorem Qif (hc : RC cc C) : ∀ (ds : List V) (F : FH) (H : Heap) (F2 : FH), RH F H -> Qex P cc ds F = some F2 -> ∃ H2, Qcj P C ds H = some H2 /\ RH F2 H2
 | [], F, H, F2, hF, h => by cases h; exact ⟨H, rfl, hF⟩
 | v :: ds, F, H, F2, hF, h => by
   have key : ∃ g first cap, v = .func (.func g) first cap := by
    cases v with
    | func f p q =>
      cases f with
      | func g => exact ⟨g, p, q, rfl⟩
      | _ => simp [Qex] at h
    | _ => simp [Qex] at h
   obtain ⟨g, first, cap, rfl⟩ := key
   simp only [Qex] at h
   cases hp : Qjn P g with
   | false => rw [hp] at h; cases h
   | true =>
     rw [hp] at h
     simp only [cond_true] at h
     have h1 := hc (some g) (first ++ cap) F H hF
     revert h1 h
     cases cc (some g) (first ++ cap) F with
     | ret w F1 =>
       intro h
       rintro ⟨H1, e, h2⟩
       obtain ⟨H2, q1, q2⟩ := Qif hc ds F1 H1 F2 h2 h
       exact ⟨H2, by simp only [Qcj, hp, if_true, e, q1], q2⟩
     | _ => intro h; cases h
theorem Qrl (hl : Qbm pol) (hc : RC cc C) (m : Nat) (f : FuncId) (args : List V) {F : FH} {H : Heap} (hF : RH F H) :
 RR ((Qwc P pol f).f cc m args F) (Qaj P pol C (fun b => Zs b m) f args H) := by
 unfold Qwc Qaj
 cases P.funcs[f]? with
 | none => trivial
 | some Fn =>
   simp only
   cases Fn.body with
   | none => trivial
   | some c =>
     simp only
     cases hb : Nat.blt 1056 Fn.ntmps with
     | true => trivial
     | false =>
       have hn : Fn.ntmps <= 1056 := by
        rcases Zkx 1056 Fn.ntmps with h | h
        . have : Nat.blt 1056 Fn.ntmps = true := by rw [Nat.blt_eq]; exact h
          rw [this] at hb; cases hb
        . exact h
       simp only [cond_false]
       cases hdc : Qhp c with
       | true =>
         simp only [cond_true, if_true]
         cases ha : Nat.ble args.length Fn.ntmps with
         | false => trivial
         | true =>
           have hla := Zmy ha
           simp only [cond_true, Qtj]
           have := Qtp (P := P) (pol := pol) (n := Fn.ntmps) (fn := f) hl hc m c _ _ F H (RT.args hn args hla) hF
           revert this
           have fin : ∀ (T : TM) (F' : FH) (ds : List V) (t' : List V) (H' : Heap), RT Fn.ntmps T t' -> RH F' H' -> RR (match Qex P cc ds F' with
            | some F2 => retK ((Qyc P Fn.ntmps Fn.results.toList).f T F2) F2
            | none => .no) (match Qcj P C ds H' with
            | some H2 => (match Qa4 P Fn t' H2 with
              | some v => some (.ret v, H2)
              | none => none)
            | none => none) := by
            intro T F' ds t' H' h1 h2
            cases hds : Qex P cc ds F' with
            | none => trivial
            | some F2 =>
              obtain ⟨H2, e2, h3⟩ := Qif hc ds F' H' F2 h2 hds
              rw [e2]
              exact Qrd h1 h3 Fn
           cases Qk9 P pol Fn.ntmps f cc m c (ofL args 0 emp) F with
           | no => intro _; trivial
           | ok y ds =>
             cases y with
             | nrm T F' => rintro ⟨t', H', e, h1, h2⟩; rw [e]; exact fin T F' ds t' H' h1 h2
             | ret T F' => rintro ⟨t', H', e, h1, h2⟩; rw [e]; exact fin T F' ds t' H' h1 h2
             | _ => intro _; trivial
       | false =>
       simp only [cond_false, Zkz, if_false]
       cases ha : Nat.ble args.length Fn.ntmps with
       | false => trivial
       | true =>
         have hla := Zmy ha
         simp only [cond_true]
         have := (Qb3 (P := P) (pol := pol) (n := Fn.ntmps) (fn := f) hl hc m c).1 _ _ F H (RT.args hn args hla) hF
         revert this
         cases (comp P pol Fn.ntmps f c).1.f cc m (ofL args 0 emp) F with
         | no => intro _; trivial
         | nrm T F' => rintro ⟨t', H', e, h1, h2⟩; simp only [e]; exact Qrd h1 h2 Fn
         | exi i T F' => intro _; trivial
         | ret T F' => rintro ⟨t', H', e, h1, h2⟩; simp only [e]; exact Qrd h1 h2 Fn
         | pan v T F' => rintro ⟨t', H', e, h1, h2⟩; simp only [e]; exact ⟨H', rfl, h2⟩
theorem Qyr : ∀ (ps : List Tmp) (l : List V) {T : TM} {t : List V}, RT n T t -> RT n (putA n ps l T) (Xz t (ps.zip l))
 | [], _, _, _, h => h
 | p :: ps, [], _, _, h => h
 | p :: ps, v :: l, T, t, h => Qyr ps l (h.put (some p) v)
def Qq4 (so : Nat) (o : Out) : Option (Rt × Heap) := match o with
            | some (e, _, H2) => Xl 0 so e H2
            | none => none
theorem Qum {so : Nat} {x : FO} {o : Out} (h : RO n x o) : RR (Qdm so x) (Qq4 so o) := by
 cases x with
 | no => trivial
 | nrm T F =>
   obtain ⟨t, H, rfl, h1, h2⟩ := h
   simp only [Qdm, Qq4, Xl, h2.tr]
   cases Qb H 0 so with
   | none => trivial
   | some o => cases o <;> first | trivial | exact ⟨_, rfl, h2.set _ _⟩
 | ret T F =>
   obtain ⟨t, H, rfl, h1, h2⟩ := h
   simp only [Qdm, Qq4, Xl, h2.tr]
   cases Qb H 0 so with
   | none => trivial
   | some o => cases o <;> first | trivial | exact ⟨_, rfl, h2.set _ _⟩
 | exi i T F =>
   obtain ⟨t, H, rfl, h1, h2⟩ := h
   simp only [Qdm, Qq4, Xl, h2.tr]
   cases Qb H 0 so with
   | none => trivial
   | some o => cases o <;> first | trivial | exact ⟨_, rfl, h2.set _ _⟩
 | pan v T F => trivial
theorem Qq7 (hl : Qbm pol) (hc : RC cc C) (m : Nat) (fo so : Nat) (args : List V) {F : FH} {H : Heap} (hF : RH F H) :
 RR (Qs2 P pol cc m fo so args F) (B6 P pol C (fun b => Zs b m) fo so args H) := by
 unfold Qs2 B6
 cases fo with
 | succ fo => trivial
 | zero =>
   simp only [hF.tr]
   cases Qb H 0 so with
   | none => trivial
   | some o =>
     cases o with
     | loop st pend fL rid t0 =>
       cases st with
       | succ st => trivial
       | zero =>
         simp only
         unfold compR
         cases hP : P.funcs[fL]? with
         | none => trivial
         | some Fn =>
           cases Qv P fL rid with
           | none => trivial
           | some q =>
             obtain ⟨ps, a, b⟩ := q
             simp only
             cases hb : Nat.blt 1056 Fn.ntmps with
             | true => trivial
             | false =>
               have hn : Fn.ntmps <= 1056 := by
                rcases Zkx 1056 Fn.ntmps with h | h
                . have : Nat.blt 1056 Fn.ntmps = true := by rw [Nat.blt_eq]; exact h
                  rw [this] at hb; cases hb
                . exact h
               simp only [cond_false, Qgm]
               by_cases h1 : args.length = ps.size
               . by_cases h2 : t0.length = Fn.ntmps
                 . simp only [h1, h2, decide_true, Bool.and_self, cond_true, if_true]
                   have hm := Qb3 (P := P) (pol := pol) (n := Fn.ntmps) (fn := fL) hl hc m
                   have := (hm a).1 _ _ F H (Qyr ps.toList args (RT.ofT hn t0 h2)) hF
                   revert this
                   cases (comp P pol Fn.ntmps fL a).1.f cc m (putA Fn.ntmps ps.toList args (ofL t0 0 emp)) F with
                   | nrm T1 F1 =>
                     rintro ⟨t1, H1, e, g1, g2⟩
                     simp only [e, midR, g2.tr]
                     cases Qb H1 0 so with
                     | none => trivial
                     | some o =>
                       cases o with
                       | loop st pend fL2 rid2 t2 =>
                         cases st with
                         | succ st => trivial
                         | zero => exact Qum ((hm b).1 _ _ _ _ g1 (g2.set so _))
                       | _ => trivial
                   | _ => intro _; trivial
                 . have : (decide (t0.length = Fn.ntmps)) = false := Znw h2
                   simp only [this, Bool.and_false, cond_false]; trivial
               . have : (decide (args.length = ps.size)) = false := Znw h1
                 simp only [this, Zni, cond_false]; trivial
     | _ => trivial
theorem Qcw (hl : Qbm pol) : ∀ m, RC (X8 P pol m) (callN P pol m)
 | 0 => fun _ _ _ _ _ => trivial
 | m + 1 => by
   intro f args F H hF
   cases f with
   | some f => exact Qrl hl (Qcw hl m) m f args hF
   | none =>
     show RR (match args with
      | .yield fo so :: rest => Qs2 P pol (X8 P pol m) m fo so rest F
      | _ => .no) (match args with
      | .yield fo so :: rest => B6 P pol (callN P pol m) (fun b => Zs b m) fo so rest H
      | _ => none)
     cases args with
     | nil => trivial
     | cons v l =>
       cases v with
       | yield fo so => exact Qq7 hl (Qcw hl m) m fo so l hF
       | _ => trivial
theorem Qrk (hl : Qbm pol) {m : Nat} {f : FuncId} (h : isTrue (X8 P pol m (some f) [] ⟨0, .nil⟩) = true) : ∃ H, callN P pol m (some f) [] [[]] = some (.ret (.bool true), H) := by
 have := Qcw (P := P) hl m (some f) [] ⟨0, .nil⟩ [[]] ⟨[], rfl, fun s => rfl, rfl⟩
 revert this h
 cases X8 P pol m (some f) [] ⟨0, .nil⟩ with
 | ret v F =>
   intro h
   cases v with
   | bool b => simp only [isTrue] at h; subst h; rintro ⟨H, e, _⟩; exact ⟨H, e⟩
   | _ => cases h
 | _ => intro h; cases h
end
end Go.AM.BM
end
section
namespace Go.AM.BM
section
variable {P : Program} {pol : Pol}
def Ans (P : Program) (f : FuncId) (xs : List V) (y : V) : Prop :=
 y.pure = true /\ ∀ (w : World) (M : Nat -> Nat -> Prop) (cargs : List Value), (∀ b i, M b i -> b < w.heap.size) -> Qf (bare (Qv P) w M) xs cargs ->
  AM.Invokes P f ⟨cargs⟩ w fun e w' => ∃ c, e = .returned c /\ Rel (bare (Qv P) w' M) y c /\ Ext 0 w.heap.size (bare (Qv P) w M) (bare (Qv P) w' M)
theorem Q2t (T : FuncId -> Nat -> Option (Array Tmp × Code × Code)) (w : World) (M : Nat -> Nat -> Prop) (hM : ∀ b i, M b i -> b < w.heap.size) : Sim w.heap.size M [] (bare T w M) where
 dom := fun f s => rfl
 bsz := Zk0 _
 fb := hM
 fmod := fun _ _ h => h
 modsz := hM
 obj := fun f s o h => by simp [Qb] at h
 nreg := fun f s n x h => by cases h
 inj := fun f s o _ _ _ _ h => by simp [Qb] at h
theorem Quq {T T' : FuncId -> Nat -> Option (Array Tmp × Code × Code)} {w w' : World} {M : Nat -> Nat -> Prop} {B k : Nat} {E' : Env} (X : Ext k B (bare T w M) E') (hw : E'.w = w') (k' : Nat) : Ext k' B (bare T' w M) (bare T' w' M) := by
 subst hw
 exact ⟨X.size, X.shape, X.cell, fun _ _ _ _ h => h, fun _ _ _ _ h => h, fun f s n b lo hi _ _ h => ⟨n, b, lo, hi, h, .inr ⟨rfl, rfl, rfl, rfl⟩⟩, X.old, X.rest, rfl, X.dfr⟩
theorem Qrx (ok : Okay P pol) {m : Nat} {f : FuncId} {xs : List V} {v y : V} {H' : Heap} (h : callN P pol m (some f) xs [[]] = some (.ret v, H')) (hz : frz (Qb H') depth v = some y) (hy : y.pure = true) : Ans P f xs y := by
 refine ⟨hy, fun w M cargs hM hr => ?_⟩
 obtain ⟨hbody, hall⟩ := (Xi ok m).1 f xs [[]] _ H' h
 have hc := hall w.heap.size M (bare (Qv P) w M) cargs (Sim.first (Q2t _ w M hM)) rfl rfl hr
 have hc' : Calls P f ⟨cargs⟩ w fun e w' => ∃ c, e = .returned c /\ Rel (bare (Qv P) w' M) y c /\ Ext 0 w.heap.size (bare (Qv P) w M) (bare (Qv P) w' M) := by
  refine hc.mono ?_
  rintro e w' ⟨E1, rfl, ⟨c, rfl, hcv⟩, S1, X1, _⟩
  obtain ⟨h1, h2⟩ := S1.frz hz hcv
  exact ⟨c, rfl, Rel.dress (E := bare E1.tab E1.w M) (E' := bare (Qv P) E1.w M) rfl rfl _ _ h2 h1, Quq X1 rfl 0⟩
 rcases ok.invokes hbody hc' with ⟨v, w', h1, h2⟩ | ⟨j, h1, h2⟩
 . exact .inl ⟨v, w', h1, h2⟩
 . exact .inr ⟨j, h1, h2⟩
theorem Ans.take {f : FuncId} {xs : List V} {y : V} (h : Ans P f xs y) {B : Nat} {F : Nat -> Nat -> Prop} {H : Heap} {E : Env} {cargs : List Value} (S : Sim B F H E) (hp : Qk xs = true) (hr : Qf E xs cargs) :
 AM.Invokes P f ⟨cargs⟩ E.w fun e w' => ∃ E', E'.w = w' /\ Qzf E' (.ret y) e /\ Sim B F H E' /\ Ext H.length B E E' := by
 have hr1 := Qf.bare (F := E.mod) (fun _ _ h => h) xs cargs hp hr
 have hr2 : Qf (bare (Qv P) E.w E.mod) xs cargs := by
  refine Qf.of_get hr1.length ?_
  intro i x v hx hv
  obtain ⟨v', hv', hxr⟩ := hr1.get hx
  rw [hv] at hv'; cases hv'
  refine Rel.dress (E := bare E.tab E.w E.mod) (E' := bare (Qv P) E.w E.mod) rfl rfl x v ?_ hxr
  have : ∀ (l : List V), Qk l = true -> ∀ (i : Nat) (x : V), l[i]? = some x -> x.pure = true := by
   intro l
   induction l with
   | nil => intro _ i x h; simp at h
   | cons a l ih =>
     intro hl i x h
     simp only [Qk, Zlm] at hl
     cases i with
     | zero => simp at h; subst h; exact hl.1
     | succ i => simp at h; exact ih hl.2 i x h
  exact this xs hp i x hx
 have := h.2 E.w E.mod cargs S.modsz hr2
 refine this.mono ?_
 rintro e w' ⟨c, rfl, hc, X⟩
 have X' : Ext 0 E.w.heap.size (bare E.tab E.w E.mod) (bare E.tab w' E.mod) := Quq X rfl 0
 obtain ⟨X2, S2⟩ := S.behind X'
 exact ⟨{ E with w := w' }, rfl, ⟨c, rfl, Rel.dress (E := bare (Qv P) w' E.mod) (E' := { E with w := w' }) rfl rfl _ _ h.1 hc⟩, S2, X2⟩
noncomputable def Qfq (x : FR) : Option V := match x with
 | .ret v F => frz (Ks F) depth v
 | _ => none
theorem Qsg (ok : Okay P pol) (hl : Qbm pol) {m : Nat} {f : FuncId} {xs : List V} {y : V} (h : Qfq (X8 P pol m (some f) xs ⟨0, .nil⟩) = some y) (hy : y.pure = true) : Ans P f xs y := by
 have := Qcw (P := P) hl m (some f) xs ⟨0, .nil⟩ [[]] ⟨[], rfl, fun s => rfl, rfl⟩
 revert this h
 cases X8 P pol m (some f) xs ⟨0, .nil⟩ with
 | ret v F =>
   rintro h ⟨H, e, hF⟩
   simp only [Qfq, hF.get] at h
   exact Qrx ok e h hy
 | _ => intro h; cases h
end
end Go.AM.BM
end
section
namespace Go.AM.BM
def Qwh (esz by_ : Nat) : Qbj := fun nm g args => match args with
 | [.mS f s 0 len none e, .int .i64 i, .mS f2 s2 o2 1 _ e2] => (match g f s, g 0 nm, g f2 s2 with
   | some (.cells xs), none, some (.cells ys) =>
     if e = esz /\ e2 = esz /\ 0 < esz /\ xs.length = len * esz /\ 0 <= i /\ i <= len /\ o2 + esz <= ys.length /\ ¬ (f = f2 /\ s = s2) /\ Yw (len + 1) by_ = true then
      some (.mS 0 nm 0 (len + 1) none esz, [(f, s, .dead), (0, nm, .cells (xs.take (i.toNat * esz) ++ (ys.drop o2).take esz ++ xs.drop (i.toNat * esz)))])
     else none
   | _, _, _ => none)
 | [.nS, .int .i64 0, .mS f2 s2 o2 1 _ e2] => (match g 0 nm, g f2 s2 with
   | none, some (.cells ys) => if e2 = esz /\ 0 < esz /\ o2 + esz <= ys.length /\ Yw 1 by_ = true then
      some (.mS 0 nm 0 1 none esz, [(0, nm, .cells ((ys.drop o2).take esz))]) else none
   | _, _ => none)
 | _ => none
theorem Q0m (esz by_ : Nat) (nm : Nat) (G G' : Get) (args : List V) (v : V) (ws : List (Nat × Nat × O)) (h : GLe G G') (hn : G' 0 nm = G 0 nm) (e : Qwh esz by_ nm G args = some (v, ws)) :
 Qwh esz by_ nm G' args = some (v, ws) /\ ∀ x ∈ ws, (∃ y, G x.1 x.2.1 = some y) \/ (x.1 = 0 /\ x.2.1 = nm) := by
 unfold Qwh at e ⊢
 split at e
 . rename_i f s len q i f2 s2 o2 _ e2
   split at e
   . rename_i xs ys h1 h2 h3
     simp only [h _ _ _ h1, hn, h2, h _ _ _ h3]
     split at e
     case isFalse => cases e
     rename_i hc
     rw [if_pos hc]
     cases e
     refine ⟨rfl, fun x hx => ?_⟩
     rcases Zli.1 hx with rfl | hx
     . exact .inl ⟨_, h1⟩
     . simp only [Zll] at hx
       subst hx
       exact .inr ⟨rfl, rfl⟩
   . cases e
 . rename_i f2 s2 o2 _ e2
   split at e
   . rename_i ys h2 h3
     simp only [hn, h2, h _ _ _ h3]
     split at e
     case isFalse => cases e
     rename_i hc
     rw [if_pos hc]
     cases e
     refine ⟨rfl, fun x hx => ?_⟩
     simp only [Zll] at hx
     subst hx
     exact .inr ⟨rfl, rfl⟩
   . cases e
 . cases e
structure Qsw (P : Program) (f : FuncId) (esz by_ : Nat) : Prop where
 body : ∃ (F : Func) (c : Code), P.funcs[f]? = some F /\ F.body = some c
 num : ∀ (F : Func), P.funcs[f]? = some F -> (F.name == "runtime.NumGoroutine") = false
 room : ∀ (w : World) (b len c i : Nat) (cur : Array Value) (T : TypeId) (vs rest : List Value) (b2 o2 c2 : Nat) (cur2 : Array Value) (T2 : TypeId) (us rest2 : List Value),
  w.heap[b]? = some (.cells cur T (0, 0)) -> cur.toList = vs ++ rest -> vs.length = len * esz -> w.heap[b2]? = some (.cells cur2 T2 (0, 0)) -> cur2.toList = us ++ rest2 -> o2 + esz <= us.length -> b ≠ b2 -> i <= len -> len + 1 <= c -> c * esz <= cur.size ->
  (∀ v ∈ vs, v.oneCell' = true) -> (∀ v ∈ us, v.oneCell' = true) -> Yw (len + 1) by_ = true ->
  Calls P f #[.slice (some ⟨b, 0, none⟩) len c, .int .i64 i, .slice (some ⟨b2, o2, none⟩) 1 c2] w fun r w' => r = .returned (.slice (some ⟨b, 0, none⟩) (len + 1) c) /\
   ∃ d, w' = { w.setRow b ⟨(vs.take (i * esz) ++ (us.drop o2).take esz ++ vs.drop (i * esz)) ++ rest.drop esz⟩ with drawn := d }
 grow : ∀ (w : World) (base : Option Addr) (len c i : Nat) (vs : List Value) (b2 o2 c2 : Nat) (cur2 : Array Value) (T2 : TypeId) (us rest2 : List Value),
  (base = none -> len = 0 /\ c = 0) -> (∀ a, base = some a -> a.off = 0 /\ a.spot = none /\ Qc3 w a.block 0 vs) -> vs.length = len * esz -> w.heap[b2]? = some (.cells cur2 T2 (0, 0)) -> cur2.toList = us ++ rest2 -> o2 + esz <= us.length -> i <= len -> c = len ->
  (∀ v ∈ vs, v.oneCell' = true) -> (∀ v ∈ us, v.oneCell' = true) -> Yw (len + 1) by_ = true ->
  Calls P f #[.slice base len c, .int .i64 i, .slice (some ⟨b2, o2, none⟩) 1 c2] w fun r w' =>
   ∃ newCap d T rest', len + 1 <= newCap /\ rest'.length = (newCap - (len + 1)) * esz /\ r = .returned (.slice (some ⟨w.heap.size, 0, none⟩) (len + 1) newCap) /\
     w' = { w with heap := w.heap.push (.cells ⟨(vs.take (i * esz) ++ (us.drop o2).take esz ++ vs.drop (i * esz)) ++ rest'⟩ T), drawn := d }
section
variable {P : Program}
theorem Qg8 {f : FuncId} {args : Array Value} {w : World} {R : Ending -> World -> Prop} (hf : ∃ (F : Func) (c : Code), P.funcs[f]? = some F /\ F.body = some c) (hn : ∀ (F : Func), P.funcs[f]? = some F -> (F.name == "runtime.NumGoroutine") = false) (h : Calls P f args w R) : Invokes P f args w R := by
 obtain ⟨Fn, c, h1, h2⟩ := hf
 refine .inr ⟨f, ?_, h⟩
 have := hn Fn h1
 simp only [callFunc, Znt, run_program, Zns, h1, this, Zkz, if_false, h2, Zk9, Znu]
theorem Q03 {B : Nat} {F : Nat -> Nat -> Prop} {H : Heap} {E : Env} (S : Sim B F H E) (d : Nat) : Ext H.length B E { E with w := { E.w with drawn := d } } /\ Sim B F H { E with w := { E.w with drawn := d } } := by
 have X1 : Ext H.length E.w.heap.size (AM.bare E.tab E.w E.mod) { AM.bare E.tab E.w E.mod with w := { E.w with drawn := d } } :=
  ⟨Zk0 _, fun _ _ _ h => h, fun _ _ _ _ h => h, fun _ _ _ _ h => h, fun _ _ _ _ h => h, fun f s n b lo hi _ _ h => ⟨n, b, lo, hi, h, .inr ⟨rfl, rfl, rfl, rfl⟩⟩, fun _ _ => rfl, ⟨rfl, rfl, rfl⟩, rfl, fun _ h => h⟩
 exact S.behind X1
theorem Q7c {xs new : List V} (k : Nat) (h1 : xs.all V.scalar = true) (h2 : new.all V.scalar = true) : (xs.take k ++ new ++ xs.drop k).all V.scalar = true := by
 rw [Zln] at h1 h2 ⊢
 intro x hx
 simp only [Zlq] at hx
 rcases hx with (hx | hx) | hx
 . exact h1 x (Zlz hx)
 . exact h2 x hx
 . exact h1 x (Zm8 hx)
theorem Qw2 {f : FuncId} {esz by_ : Nat} (sp : Qsw P f esz by_) (B : Nat) (F : Nat -> Nat -> Prop) (H : Heap) (E : Env) (nm : Nat) (args : List V) (cargs : List Value) (v : V) (ws : List (Nat × Nat × O)) (S : Sim B F H E) (one : H.length = 1) (_ : E.tab = Qv P)
 (hr : Qf E args cargs) (h : Qwh esz by_ nm (Qb H) args = some (v, ws)) : Invokes P f ⟨cargs⟩ E.w (Answer B F H E (.ret v) (wrL H ws)) := by
 have hlt : 0 < H.length := by omega
 unfold Qwh at h
 split at h
 . rename_i fs s len q i f2 s2 o2 cc e2
   split at h
   case h_2 => cases h
   rename_i xs ys hg hnn hg2
   split at h
   case isFalse => cases h
   rename_i hc
   obtain ⟨rfl, rfl, hpos, hxl, hi0, hil, hol, hne2, hroomy⟩ := hc
   cases h
   obtain ⟨cs, r1, rfl, rs, hr⟩ := Qf.cons_iff.1 hr
   obtain ⟨ci, r2, rfl, ri, hr⟩ := Qf.cons_iff.1 hr
   obtain ⟨cv, r3, rfl, rv, hr⟩ := Qf.cons_iff.1 hr
   rw [Qf.nil_iff] at hr; subst hr
   simp only [Rel] at rs ri rv
   subst ri
   obtain ⟨b, c', T', n', hmu, rfl, g1, g2, g3, g4, g5⟩ := rs
   obtain ⟨b2, c2, T2', n2', hmu2, rfl, k1, k2, k3, k4, k5⟩ := rv
   obtain ⟨b', c, T, vs, rest, q1, q2, q3, q4, q5, q6, q7, q8⟩ := S.lies hg
   rw [hmu] at q1; cases q1
   obtain ⟨b2', cur2, T2, us, rest2, p1, p2, p3, p4, p5, p6, p7, p8⟩ := S.lies hg2
   rw [hmu2] at p1; cases p1
   have hne : ¬ (fs = 0 /\ s = nm) := by
    rintro ⟨rfl, rfl⟩
    rw [hg] at hnn; cases hnn
   have hbb : b ≠ b2 := fun e => hne2 (S.inj fs s _ f2 s2 _ b hg hg2 hmu (by simp only [blk]; rw [hmu2, e]))
   have hvl := q5.length
   have hul := p5.length
   have hcs : c.size = vs.length + rest.length := by
    have := congrArg List.length q4
    simpa using this
   have hn' : n' = c.size := by
    simp only [World.shape?, q3, Znr, Prod.mk.injEq] at g3
    exact g3.2.symm
   have hend := g5 trivial
   obtain ⟨j, rfl⟩ : ∃ j : Nat, i = (j : Int) := ⟨i.toNat, by omega⟩
   have hj : j <= len := by omega
   simp only [Zm7]
   have h1v : ∀ v ∈ vs, v.oneCell' = true := Kp q5 q7
   have h1u : ∀ v ∈ us, v.oneCell' = true := Kp p5 p7
   have hnew : ((ys.drop o2).take e2).all V.scalar = true := by
    rw [Zln] at p7 ⊢
    exact fun x hx => p7 x (Zm8 (Zlz hx))
   have hrel : Qf E (xs.take (j * e2) ++ (ys.drop o2).take e2 ++ xs.drop (j * e2)) (vs.take (j * e2) ++ (us.drop o2).take e2 ++ vs.drop (j * e2)) :=
    ((q5.take _).append ((p5.drop _).take _)).append (q5.drop _)
   have hsc := Q7c (j * e2) q7 hnew
   have hjl : j * e2 <= len * e2 := Zm1 _ hj
   have hadd : (len + 1) * e2 = len * e2 + e2 := by rw [Zmg, Nat.one_mul]
   have hnl : (vs.take (j * e2) ++ (us.drop o2).take e2 ++ vs.drop (j * e2)).length = (len + 1) * e2 := by
    simp only [Zl3, Znc, Zm3]; omega
   have S1 : Sim B F (hset H fs s .dead) E := S.kill hg (fun n h => by cases h)
   have hlen1 : (hset H fs s .dead).length = H.length := Zm _ _ _ _
   have hn1 : Qb (hset H fs s .dead) 0 nm = none := by
    rw [Kw _ _ _ _ (Ya hg), if_neg (fun e => hne ⟨e.1.symm, e.2.symm⟩)]; exact hnn
   refine Qg8 sp.body sp.num ?_
   by_cases hfit : len + 1 <= c'
   . have hle : (len + 1) * e2 <= c' * e2 := Zm1 _ hfit
     have hcall := sp.room E.w b len c' j c T vs rest b2 o2 c2 cur2 T2 us rest2 q3 q4 (by omega) p3 p4 (by omega) hbb hj hfit (by omega) h1v h1u hroomy
     refine hcall.mono ?_
     rintro e w' ⟨rfl, d, rfl⟩
     have hlen2 : ((vs.take (j * e2) ++ (us.drop o2).take e2 ++ vs.drop (j * e2)) ++ rest.drop e2).length = c.size := by
      rw [Zl3, hnl, Zm3]; omega
     obtain ⟨X, S2⟩ := S1.adoptCells (f0 := 0) (s0 := nm) (by rw [hlen1]; exact hlt) hn1 q3 q2 q6 (fun f' s' o' ho' hb' => by
      rcases Qje hlt hg f' s' o' ho' with ⟨_, _, rfl⟩ | ⟨h1, h2⟩
      . cases hb'
      . exact h1 (S.inj f' s' o' fs s _ b h2 hg hb' hmu)) hrel hsc hlen2
     obtain ⟨X2, S3⟩ := Q03 S2 d
     rw [Zm, hlen1] at X2
     rw [hlen1] at X
     rw [one] at X X2
     refine ⟨_, rfl, ⟨_, rfl, ?_⟩, S3, X.trans X2, by simp only [wrL, Zm]; exact one⟩
     simp only [Rel]
     exact ⟨b, c', T', n', Qw _ _ _ _, rfl, hfit, (fun k hk => by cases hk), X2.shape _ _ _ (X.shape _ _ _ g3), g4, fun _ => hend⟩
   . have hceq : c' = len := by omega
     have hcall := sp.grow E.w (some ⟨b, 0, none⟩) len c' j vs b2 o2 c2 cur2 T2 us rest2 (fun h => by cases h) (fun a ha => by cases ha; exact ⟨rfl, rfl, q8⟩) (by omega) p3 p4 (by omega) hj hceq h1v h1u hroomy
     refine hcall.mono ?_
     rintro e w' ⟨newCap, d, T3, rest', hcap, hrl, rfl, rfl⟩
     obtain ⟨X, S2⟩ := S1.newCells (f0 := 0) (s0 := nm) (by rw [hlen1]; exact hlt) hn1 _ _ rest' T3 d hrel hsc
     rw [hlen1, one] at X
     have htot : newCap * e2 = (len + 1) * e2 + (newCap - (len + 1)) * e2 := by rw [<- Zmg]; congr 1; omega
     refine ⟨_, rfl, ⟨_, rfl, ?_⟩, S2, X, by simp only [wrL, Zm]; exact one⟩
     simp only [Rel]
     refine ⟨E.w.heap.size, newCap, T3, newCap * e2, Qw _ _ _ _, rfl, hcap, (fun k hk => by cases hk), ?_, ?_, ?_⟩
     . have := Ju E (.cells ⟨(vs.take (j * e2) ++ (us.drop o2).take e2 ++ vs.drop (j * e2)) ++ rest'⟩ T3) d
       simp only [Env.newCells, World.shape?, this]
       simp only [List.size_toArray, Znr, Prod.mk.injEq, true_and]
       rw [Zl3, hnl, hrl]; omega
     . omega
     . intro _; omega
 . rename_i f2 s2 o2 cc e2
   split at h
   case h_2 => cases h
   rename_i ys hnn hg2
   split at h
   case isFalse => cases h
   rename_i hc
   obtain ⟨rfl, hpos, hol, hroomy⟩ := hc
   cases h
   obtain ⟨cs, r1, rfl, rs, hr⟩ := Qf.cons_iff.1 hr
   obtain ⟨ci, r2, rfl, ri, hr⟩ := Qf.cons_iff.1 hr
   obtain ⟨cv, r3, rfl, rv, hr⟩ := Qf.cons_iff.1 hr
   rw [Qf.nil_iff] at hr; subst hr
   simp only [Rel] at rs ri rv
   subst ri
   subst rs
   obtain ⟨b2, c2, T2', n2', hmu2, rfl, k1, k2, k3, k4, k5⟩ := rv
   obtain ⟨b2', cur2, T2, us, rest2, p1, p2, p3, p4, p5, p6, p7, p8⟩ := S.lies hg2
   rw [hmu2] at p1; cases p1
   have hul := p5.length
   have h1u : ∀ v ∈ us, v.oneCell' = true := Kp p5 p7
   have hnew : ((ys.drop o2).take e2).all V.scalar = true := by
    rw [Zln] at p7 ⊢
    exact fun x hx => p7 x (Zm8 (Zlz hx))
   refine Qg8 sp.body sp.num ?_
   have hcall := sp.grow E.w none 0 0 0 [] b2 o2 c2 cur2 T2 us rest2 (fun _ => ⟨rfl, rfl⟩) (fun a ha => by cases ha) (by simp) p3 p4 (by omega) (Zk0 _) rfl (fun v hv => by cases hv) h1u hroomy
   refine hcall.mono ?_
   rintro e w' ⟨newCap, d, T3, rest', hcap, hrl, rfl, rfl⟩
   simp only [Nat.zero_mul, List.take_zero, Zmm, List.drop_nil, Zma, Zk7]
   obtain ⟨X, S2⟩ := S.newCells (f0 := 0) (s0 := nm) hlt hnn ((ys.drop o2).take e2) ((us.drop o2).take e2) rest' T3 d ((p5.drop _).take _) hnew
   rw [one] at X
   have hnl : ((us.drop o2).take e2).length = e2 := by simp only [Znc, Zm3]; omega
   have htot : newCap * e2 = e2 + (newCap - 1) * e2 := by
    have : newCap = 1 + (newCap - 1) := by omega
    rw [this, Zmg, Nat.one_mul]; congr 2; omega
   refine ⟨_, rfl, ⟨_, rfl, ?_⟩, S2, X, by simp only [wrL, Zm]; exact one⟩
   simp only [Rel]
   refine ⟨E.w.heap.size, newCap, T3, newCap * e2, Qw _ _ _ _, rfl, by omega, (fun k hk => by cases hk), ?_, ?_, ?_⟩
   . have := Ju E (.cells ⟨((us.drop o2).take e2) ++ rest'⟩ T3) d
     simp only [Env.newCells, World.shape?, this]
     simp only [List.size_toArray, Znr, Prod.mk.injEq, true_and]
     rw [Zl3, hnl, hrl]
     simp only [Zk7]
     omega
   . omega
   . intro _; omega
 . cases h
end
end Go.AM.BM
end
section
namespace Go.AM.BM
noncomputable def Jk (n N : Nat) : List V :=
 Nat.rec (motive := fun _ => Nat -> List V) (fun _ => []) (fun _ ih N => .int .u8 (Int.ofNat (Nat.land N (nat_lit 255))) :: ih (Nat.shiftRight N (nat_lit 8))) n N
noncomputable def repV (n : Nat) (v : V) : List V := Nat.rec (motive := fun _ => List V) [] (fun _ ih => v :: ih) n
noncomputable abbrev zB : V := .int .u8 (Int.ofNat (nat_lit 0))
noncomputable def z256 : List V := repV 256 zB
noncomputable def zbT : V := .iS z256 256 true
noncomputable def Jp (n : Nat) (v : V) (t : List V) : List V := Nat.rec (motive := fun _ => List V) t (fun _ ih => v :: ih) n
noncomputable def F0 : FH := ⟨0, .nil⟩
structure Qe0 (P : Program) (f : FuncId) (g : Qbj) : Prop where
 sound : ∀ B F H E nm args cargs v ws, Sim B F H E -> H.length = 1 -> E.tab = Qv P -> Qf E args cargs -> g nm (Qb H) args = some (v, ws) -> Invokes P f ⟨cargs⟩ E.w (Answer B F H E (.ret v) (wrL H ws))
 tame : ∀ nm G G' args v ws, GLe G G' -> G' 0 nm = G 0 nm -> g nm G args = some (v, ws) -> g nm G' args = some (v, ws) /\ ∀ x ∈ ws, (∃ y, G x.1 x.2.1 = some y) \/ (x.1 = 0 /\ x.2.1 = nm)
theorem ins_ok {P : Program} {f : FuncId} {esz by_ : Nat} (sp : Qsw P f esz by_) : Qe0 P f (Qwh esz by_) :=
 ⟨fun B F H E nm args cargs v ws S one ht hr h => Qw2 sp B F H E nm args cargs v ws S one ht hr h, fun nm G G' args v ws h hn e => Q0m esz by_ nm G G' args v ws h hn e⟩
def Qak (K : List V -> Option V) : Qbj := fun _ _ args => match K args with
 | some v => some (v, [])
 | none => none
theorem Q89 {P : Program} {f : FuncId} {K : List V -> Option V} (hK : ∀ xs y, K xs = some y -> Qk xs = true /\ Ans P f xs y) : Qe0 P f (Qak K) where
 sound := fun B F H E nm args cargs v ws S one ht hr h => by
  unfold Qak at h
  split at h
  case h_2 => cases h
  rename_i v' hv
  cases h
  obtain ⟨h1, h2⟩ := hK args v hv
  have key := h2.take S h1 hr
  rw [one] at key
  rcases key with ⟨u, w', h3, E', e1, e2, e3, e4⟩ | ⟨j, h3, h4⟩
  . exact .inl ⟨u, w', h3, E', e1, e2, e3, e4, one⟩
  . exact .inr ⟨j, h3, h4.mono fun e w' ⟨E', e1, e2, e3, e4⟩ => ⟨E', e1, e2, e3, e4, one⟩⟩
 tame := fun nm G G' args v ws h hn e => by
  refine ⟨e, fun x hx => ?_⟩
  unfold Qak at e
  split at e
  case h_2 => cases e
  cases e
  cases hx
theorem Jc {P : Program} {pol : Pol} (ok : Okay P pol) (hl : Qbm pol) {m : Nat} {f : FuncId} {xs : List V} {y : V} (h : Qfq (X8 P pol m (some f) xs ⟨0, .nil⟩) = some y) (hy : y.pure = true) : Ans P f xs y :=
 Qsg ok hl h hy
end Go.AM.BM
end
section
namespace Go.AM.BM
mutual
def vEq : V -> V -> Bool
 | .bool a, w => (match w with
   | .bool b => a == b
   | _ => false)
 | .int j a, w => (match w with
   | .int k b => decide (j = k) && decide (a = b)
   | _ => false)
 | .str a, w => (match w with
   | .str b => decide (a = b)
   | _ => false)
 | .nS, w => (match w with
   | .nS => true
   | _ => false)
 | .iS a n f, w => (match w with
   | .iS b m g => Nat.beq n m && (f == g && Qwj a b)
   | _ => false)
 | .agg a, w => (match w with
   | .agg b => Qwj a b
   | _ => false)
 | _, _ => false
def Qwj : List V -> List V -> Bool
 | [], w => (match w with
   | [] => true
   | _ => false)
 | x :: r, w => (match w with
   | y :: s => vEq x y && Qwj r s
   | _ => false)
end
mutual
theorem vEq_ok : ∀ (a b : V), vEq a b = true -> a = b
 | .bool a, b, h => by
   simp only [vEq] at h
   split at h
   . rw [beq_iff_eq.1 h]
   . cases h
 | .int j a, b, h => by
   simp only [vEq] at h
   split at h
   . simp only [Zlm, decide_eq_true_eq] at h; rw [h.1, h.2]
   . cases h
 | .str a, b, h => by
   simp only [vEq] at h
   split at h
   . rw [of_decide_eq_true h]
   . cases h
 | .nS, b, h => by
   simp only [vEq] at h
   split at h
   . rfl
   . cases h
 | .iS a n f, b, h => by
   simp only [vEq] at h
   split at h
   . simp only [Zlm, beq_iff_eq] at h
     rw [Znh h.1, h.2.1, Qlo _ _ h.2.2]
   . cases h
 | .agg a, b, h => by
   simp only [vEq] at h
   split at h
   . rw [Qlo _ _ h]
   . cases h
 | .bad, _, h => by simp [vEq] at h
 | .nP, _, h => by simp [vEq] at h
 | .ptr _ _ _, _, h => by simp [vEq] at h
 | .iptr _ _, _, h => by simp [vEq] at h
 | .gS _ _ _ _ _, _, h => by simp [vEq] at h
 | .mS _ _ _ _ _ _, _, h => by simp [vEq] at h
 | .nM, _, h => by simp [vEq] at h
 | .map _ _, _, h => by simp [vEq] at h
 | .func _ _ _, _, h => by simp [vEq] at h
 | .nF, _, h => by simp [vEq] at h
 | .nI, _, h => by simp [vEq] at h
 | .byte, _, h => by simp [vEq] at h
 | .face _ _, _, h => by simp [vEq] at h
 | .tuple _, _, h => by simp [vEq] at h
 | .yield _ _, _, h => by simp [vEq] at h
 | .rptr _ _, _, h => by simp [vEq] at h
theorem Qlo : ∀ (a b : List V), Qwj a b = true -> a = b
 | [], b, h => by
   simp only [Qwj] at h
   split at h
   . rfl
   . cases h
 | x :: r, b, h => by
   simp only [Qwj] at h
   split at h
   . simp only [Zlm] at h
     rw [vEq_ok _ _ h.1, Qlo _ _ h.2]
   . cases h
end
def Qai : List (List V × V) -> List V -> Option V
 | [], _ => none
 | (a, y) :: r, xs => if Qwj xs a then some y else Qai r xs
theorem Quh {P : Program} {f : FuncId} : ∀ {L : List (List V × V)}, (∀ e ∈ L, Qk e.1 = true /\ Ans P f e.1 e.2) -> ∀ xs y, Qai L xs = some y -> Qk xs = true /\ Ans P f xs y
 | [], _, xs, y, h => by cases h
 | (a, z) :: r, hL, xs, y, h => by
   simp only [Qai] at h
   split at h
   . rename_i he
     cases h
     rw [Qlo _ _ he]
     exact hL (a, z) (by simp)
   . exact Quh (fun e he => hL e (by simp [he])) xs y h
theorem Xf {P : Program} {f : FuncId} {L : List (List V × V)} (hL : ∀ e ∈ L, Qk e.1 = true /\ Ans P f e.1 e.2) : Qe0 P f (Qak (Qai L)) := Q89 (Quh hL)
end Go.AM.BM
end
