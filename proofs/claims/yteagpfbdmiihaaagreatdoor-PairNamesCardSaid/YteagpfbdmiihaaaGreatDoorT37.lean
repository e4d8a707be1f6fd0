/- This file holds in one the texts DV, E13, DV2, DZ; each says at its head what it proves. -/
import Derived.Test.YteagpfbdmiihaaaGreatDoorT28
import Derived.Test.YteagpfbdmiihaaaGreatDoorT29
import Derived.Test.YteagpfbdmiihaaaGreatDoorT31
import Derived.Test.YteagpfbdmiihaaaGreatDoorT33
import Derived.Test.YteagpfbdmiihaaaGreatDoorT36
import Derived.Lib.AppendZeros
set_option linter.unusedSimpArgs false
set_option linter.unusedVariables false
section
set_option maxRecDepth 100000
namespace Go.Proofs.YteagpfbdmiihaaaGreatDoor
open Go.AM Go.AM.BM
attribute [local irreducible] U W
theorem Kf {v : V} {a : Int} (h : Qev v = some a) : v = .int .i64 a := by
 unfold Qev at h
 split at h
 . cases h; rfl
 . cases h
theorem Qa0 {v : V} {a : Int} (h : Qld v = some a) : v = .int .u32 a := by
 unfold Qld at h
 split at h
 . cases h; rfl
 . cases h
theorem Q4d {v : V} {a : Int} (h : u8D v = some a) : v = .int .u8 a := by
 unfold u8D at h
 split at h
 . cases h; rfl
 . cases h
theorem Q0e {v : V} {l : List UInt8} (h : Qxm v = some l) : Q1 v l /\ l.length <= 4096 := by
 unfold Qxm at h
 split at h
 case h_2 => cases h
 rename_i c hc
 split at h
 case isFalse => cases h
 rename_i hl
 cases h
 obtain ⟨l, rfl, h1, h2⟩ := Qdp hc
 have e : (Qc l).map Q2i = l := by
  simp only [Qc, List.map_map]
  have : (Q2i ∘ fun b : UInt8 => V.int .u8 b.toNat) = id := by
   funext b
   show UInt8.ofNat b.toNat = b
   simp
  rw [this, List.map_id]
 have hl2 := Zmy hl
 rw [Z5] at hl2
 rw [e]
 exact ⟨h1, hl2⟩
theorem Q87 {v : V} {n : Nat} (h : lenD v = some n) : Qg7 v n := by
 unfold lenD at h
 split at h
 . cases h; exact ⟨[], Zq.nil⟩
 . split at h
   case isFalse => cases h
   rename_i c m fl hc
   cases h
   simp only [Zlm] at hc
   exact ⟨c, Zq.mk (by rw [Znh hc.1, Zlx])⟩
 . cases h
theorem Q62 {v : V} (h : low2 v = true) : ∃ b : UInt8, v = .int .u8 b.toNat /\ b <= 2 := by
 unfold low2 at h
 split at h
 . rename_i n
   have hn := Zmy h
   have e : (UInt8.ofNat n).toNat = n := by simp; omega
   refine ⟨UInt8.ofNat n, by rw [e]; rfl, ?_⟩
   rw [UInt8.le_iff_toNat_le, e]; exact hn
 . cases h
theorem Qyz : ∀ {c : List V}, c.all low2 = true -> ∃ l : List UInt8, c = Qc l /\ l.all (fun b => b <= 2) = true
 | [], _ => ⟨[], rfl, rfl⟩
 | v :: r, h => by
   simp only [List.all_cons, Zlm] at h
   obtain ⟨b, rfl, hb⟩ := Q62 h.1
   obtain ⟨l, rfl, hl⟩ := Qyz h.2
   exact ⟨b :: l, rfl, by simp only [List.all_cons, Zlm]; exact ⟨by simpa using hb, hl⟩⟩
theorem is1_ok {b : UInt8} (h : is1 (.int .u8 b.toNat) = true) : b = 1 := by
 have h1 : Nat.beq b.toNat 1 = true := h
 have h2 := Znh h1
 exact UInt8.toNat_inj.1 h2
theorem Qzb : ∀ {l : List UInt8}, (Qc l).all is1 = true -> l.count 1 = l.length
 | [], _ => rfl
 | b :: r, h => by
   have h' : (is1 (.int .u8 b.toNat) && (Qc r).all is1) = true := h
   simp only [Zlm] at h'
   rw [is1_ok h'.1, List.count_cons_self, Qzb h'.2, Zld]
theorem spV_ok (l : List UInt8) (i : Nat) : spV (Qc l) i = Qet l i := by
 show byteI ((Qc l).getD i .bad) = _
 rw [List.getD_eq_getElem?_getD, Qa6]
 unfold Qet
 rw [List.getD_eq_getElem?_getD]
 cases l[i]? <;> rfl
theorem Q59 {v : V} {t : List V × Bool} (h : Qwb v = some t) : ∃ l : List UInt8, t.1 = Qc l /\ Q1 v l /\ Qah l = t.2 := by
 unfold Qwb at h
 split at h
 . cases h; exact ⟨[], rfl, Zq.nil, rfl⟩
 . split at h
   case isFalse => cases h
   rename_i c n fl hc
   cases h
   simp only [Zlm] at hc
   obtain ⟨h1, h2, h3, h4⟩ := hc
   obtain ⟨l, rfl, hl⟩ := Qyz h3
   have e1 := Znh h1
   have e2 := Znh h2
   rw [Z5] at e2
   refine ⟨l, rfl, ?_, ?_⟩
   . rw [e1]
     have := Q1.mk l fl
     rwa [e2] at this
   . rw [Qd3] at h4
     have h5 := Qzb h4
     rw [Znc, e2] at h5
     have h5 : (l.take 12).count 1 = 12 := h5
     simp only [Qah, e2, hl, h5]; rfl
 . cases h
theorem Qjz {α : Type} {f : List V -> Option (List α)} {v : V} {l : List α} (h : slD f v = some l) : ∃ cs, (v = .nS /\ l = [] /\ cs = [] \/ ∃ fl, v = .iS cs l.length fl /\ f cs = some l) /\ l.length <= 900 := by
 unfold slD at h
 split at h
 . cases h; exact ⟨[], .inl ⟨rfl, rfl, rfl⟩, by simp⟩
 . rename_i c n fl
   split at h
   case h_2 => cases h
   rename_i l' hl
   split at h
   case isFalse => cases h
   rename_i hc
   cases h
   simp only [Zlm] at hc
   have e := Znh hc.1
   have e2 := Zmy hc.2
   subst e
   exact ⟨c, .inr ⟨fl, rfl, hl⟩, e2⟩
 . cases h
theorem Qln {a b c d e : V} {p : Kl} (h : ptrD a b c d e = some p) : [a, b, c, d, e] = p.cells := by
 simp only [ptrD, Zmd] at h
 obtain ⟨_, h1, _, h2, _, h3, _, h4, _, h5, h6⟩ := h
 cases h6
 rw [Kf h1, Qa0 h2, Qa0 h3, Qa0 h4, Qa0 h5]; rfl
theorem Qu7 : ∀ {cs : List V} {l : List Int}, Qzu cs = some l -> cs = Q3 l
 | [], l, h => by cases h; rfl
 | v :: r, l, h => by
   simp only [Qzu, Zmd] at h
   obtain ⟨a, h1, l', h2, h3⟩ := h
   cases h3
   rw [Kf h1, Qu7 h2]; rfl
theorem Qvp : ∀ {cs : List V} {l : List (List UInt8)}, Qpz cs = some l -> Qi2 cs l /\ ∀ k ∈ l, k.length <= 4096
 | [], l, h => by cases h; exact ⟨rfl, by simp⟩
 | v :: r, l, h => by
   simp only [Qpz, Zmd] at h
   obtain ⟨a, h1, l', h2, h3⟩ := h
   cases h3
   obtain ⟨h4, h5⟩ := Q0e h1
   obtain ⟨h6, h7⟩ := Qvp h2
   exact ⟨⟨v, r, rfl, h4, h6⟩, by simpa using ⟨h5, h7⟩⟩
theorem Qv6 : ∀ {cs : List V} {l : List Kl}, Qvc cs = some l -> cs = Qdh l
 | [], l, h => by cases h; rfl
 | a :: b :: c :: d :: e :: r, l, h => by
   simp only [Qvc, Zmd] at h
   obtain ⟨p, h1, l', h2, h3⟩ := h
   cases h3
   have e1 := Qln h1
   have e2 := Qv6 h2
   show [a, b, c, d, e] ++ r = p.cells ++ Qdh l'
   rw [e1, e2]
 | [_], l, h => by cases h
 | [_, _], l, h => by cases h
 | [_, _, _], l, h => by cases h
 | [_, _, _, _], l, h => by cases h
theorem Q42 {v : V} {l : List Kl} (h : slD Qvc v = some l) : Qd0 v l := by
 obtain ⟨cs, h1 | ⟨fl, rfl, h2⟩, h3⟩ := Qjz h
 . obtain ⟨rfl, rfl, rfl⟩ := h1
   exact Zq.nil
 . rw [Qv6 h2]
   exact Zq.mk (Qqt l)
theorem Qqf : ∀ (n : Nat) {cs : List V} {l : List Jo}, cs.length <= n -> Qm6 cs = some l -> LinesC cs l
 | n, [], l, _, h => by
   simp only [Qm6, Znr] at h
   subst h; rfl
 | 0, a :: r, l, hn, h => by simp at hn
 | n + 1, a :: r, l, hn, h => by
   unfold Qm6 at h
   split at h
   . cases h; rename_i e; cases e
   . rename_i a' b c d e f g hh i j k ll m r' heq
     cases heq
     simp only [Zmd] at h
     obtain ⟨_, h1, _, h2, _, h3, _, h4, _, h5, _, h6, _, h7, p, h8, q, h9, l', h10, h11⟩ := h
     cases h11
     have e8 := Qln h8
     rw [Kf h1, Q4d h2, Kf h3, Kf h4, Qa0 h5, Qa0 h6, Kf h7]
     have e9 : hh = .int .i64 p.at_ /\ i = .int .u32 p.birth /\ j = .int .u32 p.iv /\ k = .int .u32 p.tag /\ ll = .int .u32 p.sum := by
      simp only [Kl.cells, List.cons.injEq, and_true] at e8
      exact e8
     obtain ⟨rfl, rfl, rfl, rfl, rfl⟩ := e9
     exact ⟨m, r', rfl, Q42 h9, Qqf n (by simp only [Zld] at hn; omega) h10⟩
   . cases h
theorem Qe2 : ∀ (n : Nat) {cs : List V} {l : List Jn}, cs.length <= n -> Qdo cs = some l -> ChangesC cs l
 | n, [], l, _, h => by
   simp only [Qdo, Znr] at h
   subst h; rfl
 | 0, a :: r, l, hn, h => by simp at hn
 | n + 1, a :: r, l, hn, h => by
   unfold Qdo at h
   split at h
   . cases h; rename_i e; cases e
   . rename_i a' b c d e f g hh i j k ll r' heq
     cases heq
     simp only [Zmd] at h
     obtain ⟨_, h1, _, h2, _, h3, _, h4, _, h5, _, h6, q, h7, p, h8, l', h10, h11⟩ := h
     cases h11
     have e8 := Qln h8
     rw [Kf h1, Kf h2, Kf h3, Q4d h4, Kf h5, Kf h6]
     have e9 : hh = .int .i64 p.at_ /\ i = .int .u32 p.birth /\ j = .int .u32 p.iv /\ k = .int .u32 p.tag /\ ll = .int .u32 p.sum := by
      simp only [Kl.cells, List.cons.injEq, and_true] at e8
      exact e8
     obtain ⟨rfl, rfl, rfl, rfl, rfl⟩ := e9
     exact ⟨g, r', rfl, Q87 h7, Qe2 n (by simp only [Zld] at hn; omega) h10⟩
   . cases h
theorem frz_i {k : IntKind} {n : Int} {g : Get} {m : Nat} {v : V} (h : frz g m v = some (.int k n)) : v = .int k n := by
 cases m with
 | zero => cases h
 | succ m =>
   cases v <;> simp only [frz] at h <;> first
    | exact Option.some.inj h
    | (simp only [Zmc, reduceCtorEq, and_false, exists_false] at h)
    | (split at h <;> first
        | (split at h <;> simp only [Zmc, reduceCtorEq, and_false, exists_false] at h)
        | (simp only [Zmc, Znr, reduceCtorEq, and_false, exists_false] at h)
        | cases h)
    | cases h
theorem frzN_i {k : IntKind} {n : Int} {g : Get} {m : Nat} {v : V} (h : frzN g m v = some (.int k n)) : v = .int k n := by
 cases m with
 | zero => cases h
 | succ m =>
   cases v <;> simp only [frzN] at h <;> first
    | exact Option.some.inj h
    | (simp only [Zmc, reduceCtorEq, and_false, exists_false] at h)
    | (split at h <;> first
        | (split at h <;> simp only [Zmc, reduceCtorEq, and_false, exists_false] at h)
        | (simp only [Zmc, Znr, reduceCtorEq, and_false, exists_false] at h)
        | cases h)
    | cases h
theorem Q45 {bv wv sv : V} {r : List V} {p : Qkm} (h : Q2x (bv :: wv :: sv :: r) = some p) : ∃ mv lv kv ov cv, bv :: wv :: sv :: r = Q4s bv wv sv mv lv kv ov cv p /\ Bu mv p.own /\ Qgp lv p.lines /\ Qjd kv p.keys /\ Qjd ov p.loaded /\ Qdk cv p.changes /\
 (p.own.length <= 9223372036854775807 /\ p.lines.length <= 9223372036854775807 /\ p.changes.length <= 9223372036854775807 /\ p.keys.length <= 9223372036854775807 /\ p.loaded.length <= 9223372036854775807 /\ (∀ k ∈ p.keys, k.length <= 9223372036854775807) /\ (∀ k ∈ p.loaded, k.length <= 9223372036854775807)) := by
 unfold Q2x at h
 split at h
 case h_2 => cases h
 rename_i b' w' s' e c g ra rb rc rd re mv lv kv ov cv lg ni ng heq
 cases heq
 simp only [Zmd] at h
 obtain ⟨_, h2, _, h3, _, h4, p, h5, m, h6, ls, h7, ks, h8, os, h9, cs, h10, _, h11, _, h12, _, h13, h14⟩ := h
 cases h14
 have e5 := Qln h5
 have e9 : ra = .int .i64 p.at_ /\ rb = .int .u32 p.birth /\ rc = .int .u32 p.iv /\ rd = .int .u32 p.tag /\ re = .int .u32 p.sum := by
  simp only [Kl.cells, List.cons.injEq, and_true] at e5
  exact e5
 obtain ⟨rfl, rfl, rfl, rfl, rfl⟩ := e9
 rw [Qa0 h2, Qa0 h3, Qa0 h4, Kf h11, Kf h12, Qa0 h13]
 have i6 : Bu mv m /\ m.length <= 900 := by
  obtain ⟨cs, h1 | ⟨fl, rfl, h2⟩, h3⟩ := Qjz h6
  . obtain ⟨rfl, rfl, rfl⟩ := h1
    exact ⟨Zq.nil, h3⟩
  . rw [Qu7 h2]; exact ⟨Bu.mk _ _, h3⟩
 have i7 : Qgp lv ls /\ ls.length <= 900 := by
  obtain ⟨cs, h1 | ⟨fl, rfl, h2⟩, h3⟩ := Qjz h7
  . obtain ⟨rfl, rfl, rfl⟩ := h1
    exact ⟨⟨[], rfl, Zq.nil⟩, h3⟩
  . have hc := Qqf _ (Zk0 _) h2
    exact ⟨⟨cs, hc, Zq.mk hc.len⟩, h3⟩
 have iR : ∀ {x : V} {l : List (List UInt8)}, slD Qpz x = some l -> Qjd x l /\ l.length <= 900 /\ ∀ k ∈ l, k.length <= 1000000 := by
  intro x l hx
  obtain ⟨cs, h1 | ⟨fl, rfl, h2⟩, h3⟩ := Qjz hx
  . obtain ⟨rfl, rfl, rfl⟩ := h1
    exact ⟨⟨[], rfl, Zq.nil⟩, h3, by simp⟩
  . obtain ⟨hc, hb⟩ := Qvp h2
    exact ⟨⟨cs, hc, Zq.mk (by rw [hc.len, Zlx])⟩, h3, fun k hk => Zk1 (hb k hk) (by decide)⟩
 have i10 : Qdk cv cs /\ cs.length <= 900 := by
  obtain ⟨cs, h1 | ⟨fl, rfl, h2⟩, h3⟩ := Qjz h10
  . obtain ⟨rfl, rfl, rfl⟩ := h1
    exact ⟨⟨[], rfl, Zq.nil⟩, h3⟩
  . have hc := Qe2 _ (Zk0 _) h2
    exact ⟨⟨_, hc, Zq.mk hc.len⟩, h3⟩
 obtain ⟨k1, k2, k3⟩ := iR h8
 obtain ⟨o1, o2, o3⟩ := iR h9
 exact ⟨mv, lv, kv, ov, cv, rfl, i6.1, i7.1, k1, o1, i10.1, by simp only; omega, by simp only; omega, by simp only; omega, by simp only; omega, by simp only; omega, (fun k hk => Zk1 (k3 k hk) (by decide)), (fun k hk => Zk1 (o3 k hk) (by decide))⟩
theorem Q5y {v : V} (h : isI v = true) : (∀ g m, frz g (m + 1) v = some v) /\ (∀ q, v.refs q = false) /\ v.scalar = true := by
 cases v <;> first | exact ⟨fun _ _ => rfl, fun _ => rfl, rfl⟩ | cases h
theorem Q83 (ys : List V) (v : V) (h : kTxg ys = some v) : FzN Tryz.prog Qz 18 ys v := by
 unfold kTxg at h
 split at h
 case h_2 => cases h
 rename_i bv wv sv r
 split at h
 case isFalse => cases h
 rename_i hi
 simp only [Zlm] at hi
 split at h
 case h_2 => cases h
 rename_i d hd
 simp only [Zmd] at h
 obtain ⟨t, h0, p, h1, h2⟩ := h
 cases h2
 obtain ⟨l, t1, t2, t3⟩ := Q59 h0
 have t4 : spV t.1 = Qet l := by rw [t1]; funext i; exact spV_ok l i
 rw [t4, <- t3]
 obtain ⟨b1, b2, b3⟩ := Q5y hi.1
 obtain ⟨w1, w2, w3⟩ := Q5y hi.2
 obtain ⟨v0, H0, e1, e2⟩ := Qp6 _ _ hd
 have e3 := frzN_i e2
 subst e3
 obtain ⟨mv, lv, kv, ov, cv, e4, q2, q3, q4, q5, q6, q7⟩ := Q45 h1
 rw [e4]
 have hp : Q54 bv wv sv mv lv kv ov cv d l p := {
  dev := ⟨_, _, _, e1, rfl, rfl⟩
  frz := by
   show Option.map V.agg (Zb (frz _ 11) [bv, wv]) = _
   rw [Qt (b1 _ _) (Qt (w1 _ _) rfl)]; rfl
  frz0 := fun g m => ⟨b1 _ _, w1 _ _⟩
  nr := fun q => ⟨b2 q, w2 q⟩
  sb := b3
  sw := w3
  space := t2, own := q2, lines := q3, keys := q4, loaded := q5, changes := q6, fit := q7 }
 obtain ⟨x, H', y, f1, f2, rfl⟩ := Q3i hp
 have f3 := frz_i f2
 subst f3
 exact ⟨_, _, f1, rfl⟩
end Go.Proofs.YteagpfbdmiihaaaGreatDoor
end
section
set_option maxRecDepth 100000
namespace Go.Proofs.YteagpfbdmiihaaaGreatDoor
open Go.AM
attribute [local irreducible] U W
theorem Qin (c : Jn) (av : V) (ha : Qg7 av c.n) (s o i : Int) : Fz Tryz.prog Qz 420 [.agg (Ji c av), .agg [.int .i64 s, .int .i64 o, .int .i64 i]] fun x => x = .int .i64 (Qnu c s o i) := by
 refine Jy Tryz.func420 rfl ?_
 obtain ⟨ca, ha⟩ := ha
 have sa := Qc8 ha
 obtain ⟨m, rfl, hm⟩ := (Xr c.set s).op (by rfl) rfl
 have hm1 : ∀ s H, _ := fun s H => hm 420 0 s H rfl
 obtain ⟨m, rfl, hm⟩ := (Xr c.obj o).op (by rfl) rfl
 have hm2 : ∀ s H, _ := fun s H => hm 420 0 s H rfl
 obtain ⟨m, rfl, hm⟩ := (Xr c.index i).op (by rfl) rfl
 have hm3 : ∀ s H, _ := fun s H => hm 420 0 s H rfl
 obtain ⟨m, rfl, hm⟩ := (or_fz (.iS [.int .i64 (Qao c.set s), .int .i64 (Qao c.obj o), .int .i64 (Qao c.index i)] 3 true) [Qao c.set s, Qao c.obj o, Qao c.index i] (Bu.mk _ _) (by simp)).op (by rfl) rfl
 have hm4 : ∀ s H, _ := fun s H => hm 420 0 s H rfl
 have mt : Qz.mt 420 20 = false := by rfl
 simp only [Qn, Qh, Qg, Ql, Qa, Qd, nov, gd, rho, Qe, wr, simprocAttr, Qj, ↓Qi, Tryz.ntmps420, ta, new, Qb, hset, Qu, Qs, Qp, splice, zerosN, Qo, Qr, Qk, V.pure, Qq, Ji, sa, hm1, hm2, hm3, hm4, Tryz.underlying46, sz3, zc3, Zld, Zml, Zl3, mt]
 repeat' ((first | refine W.guardF ?_ ?_ | refine W.guardT ?_ ?_ | refine W.guardXF ?_ ?_ | refine W.guardXT ?_ ?_ | refine W.ite ?_ ?_ | refine W.opsK1 (by kernel_rfl) ?_) <;> intro h <;> simp only [Qn, Qh, Qg, Ql, Qa, Qd, nov, gd, rho, Qe, wr, simprocAttr, Qj, ↓Qi, h, mt])
 all_goals refine W.done (Zx.ret rfl rfl ?_)
 all_goals first | rfl | (simp only [Qnu, *, Jz, if_true, if_false]; try rfl)
set_option maxHeartbeats 4000000 in
theorem Q6q (v : V) (ls : List Jn) (hv : Qdk v ls) (hl : ls.length <= 1000000) (s o x : Int) :
 Fz Tryz.prog Qz 419 [v, .agg [.int .i64 s, .int .i64 o, .int .i64 x], .func (.func 420) [] []] fun y => y = .tuple [.int .i64 (bs (cCh ls s o x) ls.length), .bool (Qjx (cCh ls s o x) ls.length)] := by
 refine Jy Tryz.func419 rfl ?_
 obtain ⟨cs, hc, hv⟩ := hv
 have len := hv.len Tryz.underlying63
 have sc := Qc8 hv
 simp only [Qn, Qh, Qg, Ql, Qa, Qd, nov, gd, rho, Qe, wr, simprocAttr, Qj, ↓Qi, Tryz.ntmps419, ta, new, Qb, hset, Qu, Qs, Qp, splice, zerosN, Qo, Qr, Qk, V.pure, Qq, len]
 refine W.ul ?_
 refine W.loopS (kt := [0, 2, 4, 8, 9, 10]) rfl (fun a : Nat × Nat => Qyy v (.func (.func 420) [] []) (.ptr 0 4 0) (.int .i64 ls.length) (.int .i64 a.1) (.int .i64 a.2)) (fun _ => [[(4, .cells [.int .i64 s, .int .i64 o, .int .i64 x])]])
  (fun a => a.1 <= a.2 /\ a.2 <= ls.length /\ Qgv (cCh ls s o x) (a.2 - a.1) a.1 a.2 = bs (cCh ls s o x) ls.length) (fun a => a.2 - a.1) ?_ (0, ls.length) ⟨by simp, by simp, rfl⟩ rfl rfl
 rintro ⟨i, j⟩ ⟨hij, hj, hR⟩
 simp only at hij hj hR
 simp only [Qyy]
 by_cases h : i < j
 . have c1 : decide ((i : Int) < j) = true := Znv (by omega)
   have wa : (IntKind.i64).wrap ((i : Int) + j) = ((i + j : Nat) : Int) := by rw [wrap_i64] <;> omega
   have hm : (i + j) / 2 < ls.length := by omega
   have at1 := hv.at (k := .i64) Tryz.underlying63 sz91 (by decide) (i := (((i + j) / 2 : Nat) : Int)) (by omega) (by omega)
   obtain ⟨dv, hd, ld⟩ := hc.ld hm
   have ld' : ∀ g, ldV Tryz.prog 91 g (.iptr cs ((((i + j) / 2 : Nat) : Int).toNat * 12)) = _ := ld
   have cv1 := fun g => Qy2 g (i + j) (by omega)
   have cv2 := fun g => Qzx g ((i + j) / 2) (by omega)
   have sh : ∀ p q, Z1 Tryz.prog .shr 218 p q (.int .u64 ((i + j : Nat) : Int)) (.int .u64 1) = _ := fun p q => Q2z (i + j)
   obtain ⟨m, rfl, hm2⟩ := (Qin ls[(i + j) / 2] dv hd s o x).op (by rfl) (Qt (Qb4 hd) rfl)
   have hm3 : ∀ s H, _ := fun s H => hm2 419 0 s H rfl
   have eL : cCh ls s o x ((i + j) / 2) = Qnu ls[(i + j) / 2] s o x := by simp only [cCh, Zkv hm]
   have w1 : (IntKind.i64).wrap ((((i + j) / 2 : Nat) : Int) + 1) = (((i + j) / 2 + 1 : Nat) : Int) := by rw [wrap_i64] <;> omega
   rw [<- eL] at hm3
   simp only [Qn, Qh, Qg, Ql, Qa, Qd, nov, gd, rho, Qe, wr, simprocAttr, Qj, ↓Qi, c1, wa, at1, ld', cv1, cv2, sh, hm3, ta, new, Qb, hset, Qu, Qs, Qp, splice, zerosN, Qo, Qr, Qk, V.pure, Qq]
   refine W.opsK (by kernel_rfl) ?_
   simp only [Qn, Qh, Qg, Ql, Qa, Qd, nov, gd, rho, Qe, wr, simprocAttr, Qj, ↓Qi, ta, new, Qb, hset, Qu, Qs, Qp, splice, zerosN, Qo, Qr, Qk, V.pure, Qq]
   refine W.ite ?_ ?_ <;> intro h2 <;> simp only [Qn, Qh, Qg, Ql, Qa, Qd, nov, gd, rho, Qe, wr, simprocAttr, Qj, ↓Qi, ta, new, Qb, hset, Qu, Qs, Qp, splice, zerosN, Qo, Qr, Qk, V.pure, Qq, w1]
   . exact W.done ⟨((i + j) / 2 + 1, j), rfl, rfl, ⟨by simp only; omega, hj, by rw [<- hR, Q2e h h2]⟩, by simp only; omega⟩
   . exact W.done ⟨(i, (i + j) / 2), rfl, rfl, ⟨by simp only; omega, by simp only; omega, by rw [<- hR, Q23 h h2]⟩, by simp only; omega⟩
 . have c1 : decide ((i : Int) < j) = false := Znw (by omega)
   have e : i = j := by omega
   subst e
   have hi : i = bs (cCh ls s o x) ls.length := by
    rw [<- hR, Nat.sub_self]; rfl
   have key : Qjx (cCh ls s o x) ls.length = (decide (i < ls.length) && decide (cCh ls s o x i = 0)) := by rw [Qjx, <- hi]
   rw [key, <- hi]
   simp only [Qn, Qh, Qg, Ql, Qa, Qd, nov, gd, rho, Qe, wr, simprocAttr, Qj, ↓Qi, c1]
   refine W.done ?_
   by_cases h2 : i < ls.length
   . have c2 : decide ((i : Int) < ls.length) = true := Znv (by omega)
     have at1 := hv.at (k := .i64) Tryz.underlying63 sz91 (by decide) (i := (i : Int)) (by omega) (by omega)
     obtain ⟨dv, hd, ld⟩ := hc.ld h2
     have ld' : ∀ g, ldV Tryz.prog 91 g (.iptr cs ((i : Int).toNat * 12)) = _ := ld
     obtain ⟨m, rfl, hm2⟩ := (Qin ls[i] dv hd s o x).op (by rfl) (Qt (Qb4 hd) rfl)
     have hm3 : ∀ s H, _ := fun s H => hm2 419 0 s H rfl
     have eL : cCh ls s o x i = Qnu ls[i] s o x := by simp only [cCh, Zkv h2]
     rw [<- eL] at hm3
     have e0 : (cCh ls s o x i == 0) = decide (cCh ls s o x i = 0) := rfl
     simp only [Qn, Qh, Qg, Ql, Qa, Qd, nov, gd, rho, Qe, wr, simprocAttr, Qj, ↓Qi, c2, at1, ld', hm3, e0, ta, new, Qb, hset, Qu, Qs, Qp, splice, zerosN, Qo, Qr, Qk, V.pure, Qq]
     refine W.opsK (by kernel_rfl) ?_
     simp only [Qn, Qh, Qg, Ql, Qa, Qd, nov, gd, rho, Qe, wr, simprocAttr, Qj, ↓Qi, ta, new, Qb, hset, Qu, Qs, Qp, splice, zerosN, Qo, Qr, Qk, V.pure, Qq]
     rw [Znv h2, Zmv]
     exact W.done (Zx.ret rfl rfl rfl)
   . have c2 : decide ((i : Int) < ls.length) = false := Znw (by omega)
     simp only [Qn, Qh, Qg, Ql, Qa, Qd, nov, gd, rho, Qe, wr, simprocAttr, Qj, ↓Qi, c2, ta, new, Qb, hset, Qu, Qs, Qp, splice, zerosN, Qo, Qr, Qk, V.pure, Qq]
     refine W.opsK (by kernel_rfl) ?_
     simp only [Qn, Qh, Qg, Ql, Qa, Qd, nov, gd, rho, Qe, wr, simprocAttr, Qj, ↓Qi, ta, new, Qb, hset, Qu, Qs, Qp, splice, zerosN, Qo, Qr, Qk, V.pure, Qq]
     rw [Znw h2, Zni]
     exact W.done (Zx.ret rfl rfl rfl)
end Go.Proofs.YteagpfbdmiihaaaGreatDoor
end
section
set_option maxRecDepth 100000
namespace Go.Proofs.YteagpfbdmiihaaaGreatDoor
open Go.AM Go.AM.BM
theorem frz_b {b : Bool} {g : Get} {m : Nat} {v : V} (h : frz g m v = some (.bool b)) : v = .bool b := by
 cases m with
 | zero => cases h
 | succ m =>
   cases v <;> simp only [frz] at h <;> first
    | exact Option.some.inj h
    | (simp only [Zmc, reduceCtorEq, and_false, exists_false] at h)
    | (split at h <;> first
        | (split at h <;> simp only [Zmc, reduceCtorEq, and_false, exists_false] at h)
        | (simp only [Zmc, Znr, reduceCtorEq, and_false, exists_false] at h)
        | cases h)
    | cases h
theorem frz_t {l : List V} {g : Get} {m : Nat} {v : V} (h : frz g (m + 1) v = some (.tuple l)) : ∃ cs, v = .tuple cs /\ Zb (frz g m) cs = some l := by
 cases v <;> simp only [frz] at h <;> first
  | (simp only [Zmc, reduceCtorEq, and_false, exists_false] at h; done)
  | (obtain ⟨a, h1, h2⟩ := Zmc.1 h; cases h2; exact ⟨_, rfl, h1⟩)
  | (split at h <;> first
      | (split at h <;> simp only [Zmc, reduceCtorEq, and_false, exists_false] at h)
      | (simp only [Zmc, Znr, reduceCtorEq, and_false, exists_false] at h)
      | cases h)
  | cases h
theorem frz_ib {k : IntKind} {n : Int} {b : Bool} {g : Get} {m : Nat} {v : V} (h : frz g (m + 1) v = some (.tuple [.int k n, .bool b])) : v = .tuple [.int k n, .bool b] := by
 obtain ⟨cs, rfl, h1⟩ := frz_t h
 match cs, h1 with
 | [], h1 => cases h1
 | [x], h1 =>
   simp only [Zb] at h1
   split at h1
   . rename_i e1 e2
     cases e2; cases h1
   . cases h1
 | x :: y :: r, h1 =>
   simp only [Zb] at h1
   split at h1
   case h_2 => cases h1
   rename_i a l e1 e2
   cases h1
   split at e2
   case h_2 => cases e2
   rename_i a l e3 e4
   cases e2
   cases r with
   | nil => rw [frz_i e1, frz_b e3]
   | cons z r =>
     simp only [Zb] at e4
     split at e4 <;> cases e4
theorem Q29 (ys : List V) (v : V) (h : Qyu 420 ys = some v) : FzN Tryz.prog Qz 419 ys v := by
 unfold Qyu at h
 split at h
 case h_2 => cases h
 rename_i w s o x g
 split at h
 case isFalse => cases h
 rename_i hg
 have hg2 := Znh hg
 subst hg2
 simp only [Zmd] at h
 obtain ⟨ls, h1, s', h2, o', h3, x', h4, h5⟩ := h
 cases h5
 rw [Kf h2, Kf h3, Kf h4]
 have i10 : Qdk w ls /\ ls.length <= 900 := by
  obtain ⟨cs, h1 | ⟨fl, rfl, h2⟩, h3⟩ := Qjz h1
  . obtain ⟨rfl, rfl, rfl⟩ := h1
    exact ⟨⟨[], rfl, Zq.nil⟩, h3⟩
  . have hc := Qe2 _ (Zk0 _) h2
    exact ⟨⟨_, hc, Zq.mk hc.len⟩, h3⟩
 obtain ⟨v0, H', y, f1, f2, rfl⟩ := Q6q w ls i10.1 (by omega) s' o' x'
 have f3 : v0 = .tuple [.int .i64 (bs (cCh ls s' o' x') ls.length), .bool (Qjx (cCh ls s' o' x') ls.length)] := by
  exact frz_ib f2
 subst f3
 exact ⟨_, _, f1, rfl⟩
end Go.Proofs.YteagpfbdmiihaaaGreatDoor
end
section
set_option maxRecDepth 100000
namespace Go.AM
open Go.RowKit Go.Lib
section
variable {P : Program}
theorem Qij (w : World) {o : Oper} {a : Act} {K : Act -> World -> Prop} {Q : Exit -> Act -> World -> Prop} (d s : Operand) (t t' : TypeId)
 (ho : o.op = .call { callee := .builtin .copy, args := #[d, s], argTypes := #[t, t'] }) (v u : Value) (hd : a.eval d = v) (hs : a.eval s = u) {v' : Value} {w' : World}
 (hr : (Builtin.copy_ #[t, t'] o.type #[v, u]).run P w = .ok v' w') (h : K (a.put o.dst v') w') : o.wp P a w K Q := by
 unfold Oper.wp execOp
 simp only [ho, resolve, invoke, builtin, Znt, Znu, Zns, List.map_toArray, Zlh, List.map_nil, hd, hs, hr]
 exact h
theorem Qdd (w : World) {ops : Array Oper} {rest : List Oper} {o : Oper} {a : Act} {Q : Exit -> Act -> World -> Prop} (hgd : o.guard = none) (d s : Operand) (t t' : TypeId)
 (ho : o.op = .call { callee := .builtin .copy, args := #[d, s], argTypes := #[t, t'] }) (v u : Value) (hd : a.eval d = v) (hs : a.eval s = u) {v' : Value} {w' : World}
 (hr : (Builtin.copy_ #[t, t'] o.type #[v, u]).run P w = .ok v' w') (h : wpList P ops Q rest (a.put o.dst v') w') : wpList P ops Q (o :: rest) a w :=
 wpList_plain hgd fun _ hK => Qij w d s t t' ho v u hd hs hr (hK _ _ h)
theorem Qf7 {ops : Array Oper} {o : Oper} {a : Act} {w : World} {K : Act -> World -> Prop} {Q : Exit -> Act -> World -> Prop} {E : Prop}
 (hg : o.guard = none) (d x : Operand) (dT sT : TypeId) (hop : o.op = Op.call { callee := Callee.builtin Builtin.copy, args := #[d, x], argTypes := #[dT, sT] })
 (v u : Value) (hd : a.eval d = v) (hx : a.eval x = u) {v' : Value} {w' : World} (hr : (Builtin.copy_ #[dT, sT] o.type #[v, u]).run P w = .ok v' w') (hK : K (a.put o.dst v') w') :
 if Region.wanted o (yielded ops a.tmps) = true then Oper.wp P o a w K Q else E := by
 have hw : Region.wanted o (yielded ops a.tmps) = true := by simp [Region.wanted, hg]
 rw [if_pos hw]
 exact Qij w d x dT sT hop v u hd hx hr hK
end
end Go.AM
namespace Go.Proofs.YteagpfbdmiihaaaGreatDoor
open Go.AM Go.AM.BM Go.RowKit Go.Lib
theorem uS : Tryz.prog.underlying 63 = some (.slice 91) := by kernel_rfl
theorem uI : Tryz.prog.underlying 3 = some (.int .i64) := by kernel_rfl
theorem uB : Tryz.prog.underlying 4 = some .bool := by kernel_rfl
theorem zE : sz Tryz.prog 91 = some 12 := by kernel_rfl
theorem byE : byt Tryz.prog 91 = some 96 := by kernel_rfl
theorem zcE : (zer Tryz.prog 91).map (fun z => z.cells.size) = some 12 := by kernel_rfl
set_option maxHeartbeats 4000000 in
theorem Q40 
 (w : World) (b n c i m vb voff vc : Nat) (hm : 0 < m) (hi : i < n) (hroom : n + m <= c) (hn63 : n + m <= 35184372088832) (hov : ∀ lb cb, (callFunc 435 #[.slice (some ⟨vb, voff, none⟩) m vc, .slice (some ⟨b, (i + m) * 12, none⟩) lb cb]).run Tryz.prog w = .ok (.value (.bool false)) w)
 (w1 w2 : World) (hcp1 : ∀ ty dc sc, (Builtin.copy_ #[63, 63] ty #[.slice (some ⟨b, (i + m) * 12, none⟩) (n + m - (i + m)) dc, .slice (some ⟨b, i * 12, none⟩) (n + m - i) sc]).run Tryz.prog w.drew = .ok (goInt ((n - i : Nat) : Int)) w1)
 (hcp2 : ∀ ty dc, (Builtin.copy_ #[63, 63] ty #[.slice (some ⟨b, i * 12, none⟩) (n + m - i) dc, .slice (some ⟨vb, voff, none⟩) m vc]).run Tryz.prog w1 = .ok (goInt m) w2) :
 Calls Tryz.prog 370 #[.slice (some ⟨b, 0, none⟩) n c, .int .i64 i, .slice (some ⟨vb, voff, none⟩) m vc] w fun e w' => e = .returned (.slice (some ⟨b, 0, none⟩) (n + m) c) /\ w' = w2 := by
 have mixed := Tryz.checked.mixed
 have r34 := Qm (P := Tryz.prog) uS; have r3 := Qm (P := Tryz.prog) uI; have r4 := Qm (P := Tryz.prog) uB
 have z129 : ∀ w, (Go.sizeOf 91).run Tryz.prog w = .ok 12 w := Jm zE
 have hz1 : ¬ ((m : Int) = 0) := by omega
 have hz2 : ¬ ((i : Int) = (n : Int)) := by omega
 have hz3 : ¬ ((c : Int) < (n : Int) + (m : Int)) := by omega
 have hw0 : IntKind.i64.wrap ((n : Int) + (m : Int)) = (n : Int) + (m : Int) := by rw [IntKind.wrap_i64]; omega
 have hw1 : IntKind.i64.wrap ((i : Int) + (m : Int)) = (i : Int) + (m : Int) := by rw [IntKind.wrap_i64]; omega
 have hb0 : (0 : Int) <= (n : Int) + (m : Int) := by omega
 have hb1 : (0 : Int) <= (i : Int) + (m : Int) := by omega
 have hin : i <= n := by omega
 have htn0 : ((n : Int) + (m : Int)).toNat = n + m := by omega
 have htn : ((i : Int) + (m : Int)).toNat = i + m := by omega
 have hb2 : ¬ (c = i + m) := by omega
 have hb3 : (i : Int) <= (n : Int) + (m : Int) := by omega
 have hb4 : ¬ (c = i) := by omega
 have hb5 : (n : Int) + (m : Int) <= (c : Int) := by omega
 go_enter Tryz.func370, Tryz.ntmps370
 go_wp2_with (simp only [hov])
 go_region_law_o (refine Qf7 rfl _ _ 63 63 rfl _ _ (by simp [Act.eval, Act.put]) (by simp [Act.eval, Act.put]) (hcp1 _ _ _) ?_)
 go_wp2_with (at_builtin; refine Qdd _ rfl _ _ 63 63 rfl _ _ rfl rfl (hcp2 _ _) ?_)
 go_ret
 exact ⟨rfl, rfl⟩
set_option maxHeartbeats 4000000 in
theorem Qzj 
 (w : World) (base : Option Addr) (n c m : Nat) (v : Value) (hm : 0 < m) (hv : ∀ w, (Builtin.lenOf v).run Tryz.prog w = .ok m w) (hsl : ∃ a k, v = .slice a m k) (hn63 : n + m <= 35184372088832) (hnc : n <= c) (hbase : base = none -> c = 0) (v1 : Value)
 (w1 : World) (hap : ∀ ty, (Builtin.append_ #[63, 63] ty #[.slice base n c, v]).run Tryz.prog w = .ok v1 w1) :
 Calls Tryz.prog 370 #[.slice base n c, .int .i64 n, v] w fun e w' => e = .returned v1 /\ w' = w1 := by
 have mixed := Tryz.checked.mixed
 have r34 := Qm (P := Tryz.prog) uS; have r3 := Qm (P := Tryz.prog) uI; have r4 := Qm (P := Tryz.prog) uB
 have z129 : ∀ w, (Go.sizeOf 91).run Tryz.prog w = .ok 12 w := Jm zE
 obtain ⟨va, vk, rfl⟩ := hsl
 have hz1 : ¬ ((m : Int) = 0) := by omega
 have hin : n <= c := hnc
 have hnc' : (n : Int) <= (c : Int) := by omega
 go_enter Tryz.func370, Tryz.ntmps370
 cases base with
 | none =>
   have h0 := hbase rfl
   have hn0 : n = 0 := by omega
   subst h0
   subst hn0
   go_wp2_with (at_builtin; refine Lib.wpList_append_run _ rfl _ _ _ _ rfl _ _ rfl rfl _ _ (hap _) ?_)
   go_ret
   exact ⟨rfl, rfl⟩
 | some a =>
   go_wp2_with (at_builtin; refine Lib.wpList_append_run _ rfl _ _ _ _ rfl _ _ rfl rfl _ _ (hap _) ?_)
   all_goals (go_ret; exact ⟨rfl, rfl⟩)
set_option maxHeartbeats 4000000 in
theorem Q5o 
 (w : World) (b N n c i m G vb voff vc : Nat) (hm : 0 < m) (hi : i < n) (hnc : n <= c) (hroom : c < n + m) (hG : n + m <= G) (hn63 : n + m <= 35184372088832)
 (w1 w2 w3 : World) (hap : ∀ ty, (Builtin.append_ #[63, 3] ty #[.slice (some ⟨b, 0, none⟩) i c, .int .i64 ((n : Int) + (m : Int) - (i : Int))]).run Tryz.prog w = .ok (.slice (some ⟨N, 0, none⟩) (n + m) G) w1)
 (hcp1 : ∀ ty dc, (Builtin.copy_ #[63, 63] ty #[.slice (some ⟨N, i * 12, none⟩) (n + m - i) dc, .slice (some ⟨vb, voff, none⟩) m vc]).run Tryz.prog w1 = .ok (goInt m) w2)
 (hcp2 : ∀ ty dc sc, (Builtin.copy_ #[63, 63] ty #[.slice (some ⟨N, (i + m) * 12, none⟩) (n + m - (i + m)) dc, .slice (some ⟨b, i * 12, none⟩) (n - i) sc]).run Tryz.prog w2.drew = .ok (goInt ((n - i : Nat) : Int)) w3) :
 Calls Tryz.prog 370 #[.slice (some ⟨b, 0, none⟩) n c, .int .i64 i, .slice (some ⟨vb, voff, none⟩) m vc] w fun e w' => e = .returned (.slice (some ⟨N, 0, none⟩) (n + m) G) /\ w' = w3 := by
 have mixed := Tryz.checked.mixed
 have r34 := Qm (P := Tryz.prog) uS; have r3 := Qm (P := Tryz.prog) uI; have r4 := Qm (P := Tryz.prog) uB
 have z129 : ∀ w, (Go.sizeOf 91).run Tryz.prog w = .ok 12 w := Jm zE
 have hz1 : ¬ ((m : Int) = 0) := by omega
 have hz2 : ¬ ((i : Int) = (n : Int)) := by omega
 have hz3 : (c : Int) < (n : Int) + (m : Int) := by omega
 have hw0 : IntKind.i64.wrap ((n : Int) + (m : Int)) = (n : Int) + (m : Int) := by rw [IntKind.wrap_i64]; omega
 have hw1 : IntKind.i64.wrap ((i : Int) + (m : Int)) = (i : Int) + (m : Int) := by rw [IntKind.wrap_i64]; omega
 have hw2 : IntKind.i64.wrap ((n : Int) + (m : Int) - (i : Int)) = (n : Int) + (m : Int) - (i : Int) := by rw [IntKind.wrap_i64]; omega
 have hb0 : (0 : Int) <= (n : Int) + (m : Int) := by omega
 have hb1 : (0 : Int) <= (i : Int) + (m : Int) := by omega
 have hin : i <= n := by omega
 have hic : i <= c := by omega
 have htn0 : ((n : Int) + (m : Int)).toNat = n + m := by omega
 have htn : ((i : Int) + (m : Int)).toNat = i + m := by omega
 have hGi : ¬ (G = i) := by omega
 have hGim : ¬ (G = i + m) := by omega
 have hci : ¬ (c = i) := by omega
 have hb3 : (i : Int) <= (n : Int) := by omega
 have hb5 : (i : Int) + (m : Int) <= (n : Int) + (m : Int) := by omega
 have hb6 : (i : Int) <= (n : Int) + (m : Int) := by omega
 have hb7 : (i : Int) <= (c : Int) := by omega
 have hb8 : (n : Int) <= (c : Int) := by omega
 go_enter Tryz.func370, Tryz.ntmps370
 go_wp2_with (first
  | (at_builtin; refine Lib.wpList_append_run _ rfl _ _ _ _ rfl _ _ rfl rfl _ _ (hap _) ?_)
  | (at_builtin; refine Qdd _ rfl _ _ 63 63 rfl _ _ rfl rfl (hcp1 _ _) ?_))
 go_region_law_o (refine Qf7 rfl _ _ 63 63 rfl _ _ (by simp [Act.eval, Act.put]) (by simp [Act.eval, Act.put]) (hcp2 _ _ _) ?_)
 go_wp2
 go_ret
 exact ⟨rfl, rfl⟩
theorem Qlq {w : World} {b2 o2 c2 : Nat} {cur2 : Array Value} {T2 : TypeId} {us rest2 : List Value} (hb2 : w.heap[b2]? = some (.cells cur2 T2 (0, 0))) (hc2 : cur2.toList = us ++ rest2) (hol : o2 + 12 <= us.length) (w' : World) (hw : w'.heap[b2]? = w.heap[b2]?) :
 (Builtin.firstCells 12 1 (.slice (some ⟨b2, o2, none⟩) 1 c2)).run Tryz.prog w' = .ok ⟨(us.drop o2).take 12⟩ w' := by
 have h1 := (Qda hw (Qy9 hb2 hc2)).take o2 12
 rw [Zk7] at h1
 have := Zr (P := Tryz.prog) (esz := 12) (k := 1) (n := 1) (cap := c2) h1 (by simp only [Znc, Zm3]; omega) (Zk0 _) 1
 rw [this, Nat.one_mul, List.take_take, Nat.min_self]
theorem Q4f : Qsw Tryz.prog 370 12 96 where
 body := ⟨_, _, Tryz.func370, rfl⟩
 num := fun F hF => by rw [Tryz.func370] at hF; cases hF; rfl
 room := fun w b len c i cur T vs rest b2 o2 c2 cur2 T2 us rest2 hb hcur hvl hb2 hcur2 hol hbb hi hfit hcsz h1v h1u hroomy => by
  have hle := (Bd hroomy).2
  have hnew1 : ∀ v ∈ (us.drop o2).take 12, v.oneCell' = true := fun v hv => h1u v (Zm8 (Zlz hv))
  have hnl : ((us.drop o2).take 12).length = 12 := by simp only [Znc, Zm3]; omega
  have hcs : cur.size = vs.length + rest.length := by
   have := congrArg List.length hcur
   simpa using this
  rcases Zkx i len with hlt | hge
  . have hov : ∀ lb cb, (callFunc 435 #[.slice (some ⟨b2, o2, none⟩) 1 c2, .slice (some ⟨b, (i + 1) * 12, none⟩) lb cb]).run Tryz.prog w = .ok (.value (.bool false)) w := fun lb cb => by
     rw [run_callFunc_extern Tryz.func435 (by kernel_rfl) (by kernel_rfl) (by kernel_rfl) (e := Extern.SlicesOverlaps.overlaps Tryz.f435.params Tryz.f435.resultTypes) (by kernel_rfl)]
     have := Lib.run_overlaps_apart (P := Tryz.prog) w 63 4 91 uS 12 (Jm zE) ⟨b2, o2, none⟩ ⟨b, (i + 1) * 12, none⟩ 1 c2 lb cb (fun e => hbb e.symm) T2 T cur2.size cur.size
      (by simp [World.shape?, hb2]) (by simp [World.shape?, hb]) (by omega) (by simp [World.frozen?, hb2]) (by simp [World.frozen?, hb2])
     change ((Extern.SlicesOverlaps.overlaps #[63, 63] #[4] _).run _ _).andThen _ = _
     rw [this]; rfl
    have hLv := Qy9 hb hcur
    have htl : (vs.drop (i * 12)).length = (len - i) * 12 := by rw [Zm3, hvl, Nat.sub_mul]
    have hsrc1 : ∀ sc, (Builtin.firstCells 12 (len - i) (.slice (some ⟨b, i * 12, none⟩) (len + 1 - i) sc)).run Tryz.prog w.drew = .ok ⟨vs.drop (i * 12)⟩ w.drew := fun sc => by
     have h1 := (Qda (w' := w.drew) rfl hLv).take (i * 12) ((len - i) * 12)
     rw [Zk7, <- htl, Zm5] at h1
     have := Zr (P := Tryz.prog) (esz := 12) (k := len - i) (n := len - i) (cap := sc) h1 htl (Zk0 _) (len + 1 - i)
     rw [this, <- htl, Zm5]
    have hcp1 : ∀ ty dc sc, (Builtin.copy_ #[63, 63] ty #[.slice (some ⟨b, (i + 1) * 12, none⟩) (len + 1 - (i + 1)) dc, .slice (some ⟨b, i * 12, none⟩) (len + 1 - i) sc]).run Tryz.prog w.drew = .ok (goInt ((len - i : Nat) : Int)) (w.drew.setRow b ⟨splice cur.toList ((i + 1) * 12) (vs.drop (i * 12))⟩) := fun ty dc sc =>
     Qgj (t := 63) (ts := #[63, 63]) rfl uS zE (w := w.drew) hb (fun _ => rfl) (by simp only [Nat.min_def]; split <;> omega) (hsrc1 sc) (by rw [htl]; omega) (fun v hv => h1v v (Zm8 hv))
    have hb' : (w.drew.setRow b ⟨splice cur.toList ((i + 1) * 12) (vs.drop (i * 12))⟩).heap[b]? = some (.cells ⟨splice cur.toList ((i + 1) * 12) (vs.drop (i * 12))⟩ T (0, 0)) := setRow_heap w.drew b cur _ T (0, 0) hb
    have hsl : (splice cur.toList ((i + 1) * 12) (vs.drop (i * 12))).length = cur.size := by
     rw [Ym _ _ _ (by rw [htl, Zmb]; omega), Zmb]
    have hcp2 : ∀ ty dc, (Builtin.copy_ #[63, 63] ty #[.slice (some ⟨b, i * 12, none⟩) (len + 1 - i) dc, .slice (some ⟨b2, o2, none⟩) 1 c2]).run Tryz.prog (w.drew.setRow b ⟨splice cur.toList ((i + 1) * 12) (vs.drop (i * 12))⟩) =
     .ok (goInt (1 : Nat)) ((w.drew.setRow b ⟨splice cur.toList ((i + 1) * 12) (vs.drop (i * 12))⟩).setRow b ⟨splice (splice cur.toList ((i + 1) * 12) (vs.drop (i * 12))) (i * 12) ((us.drop o2).take 12)⟩) := fun ty dc =>
     Qgj (t := 63) (ts := #[63, 63]) rfl uS zE hb' (fun _ => rfl) (by simp only [Nat.min_def]; split <;> omega)
      (Qlq hb2 hcur2 hol _ (by rw [setRow_other _ _ _ _ (fun e => hbb e.symm)]; rfl)) (by rw [hnl]; show i * 12 + 12 <= (splice cur.toList ((i + 1) * 12) (vs.drop (i * 12))).length; rw [hsl]; omega) hnew1
    refine (Q40 w b len c i 1 b2 o2 c2 (by omega) hlt hfit hle hov _ _ hcp1 hcp2).mono ?_
    rintro e w' ⟨rfl, rfl⟩
    refine ⟨rfl, w.drawn + 1, ?_⟩
    rw [setRow_setRow, hcur, show (i + 1) * 12 = i * 12 + 12 by omega, Qof vs rest _ (i * 12) 12 (by omega) hnl (by omega)]
    rfl
  . have hie : i = len := by omega
    subst hie
    have hap : ∀ ty, (Builtin.append_ #[63, 63] ty #[.slice (some ⟨b, 0, none⟩) i c, .slice (some ⟨b2, o2, none⟩) 1 c2]).run Tryz.prog w = .ok (.slice (some ⟨b, 0, none⟩) (i + 1) c) (w.setRow b ⟨splice cur.toList (0 + i * 12) ((us.drop o2).take 12)⟩) := fun ty =>
     AM.run_append_room (t := 63) (t2 := 63) (ts := #[63, 63]) rfl rfl uS zE byE (.other _ 1 _ _ uS (fun k e => by cases e) (fun _ => rfl) (fun w' hw => Qlq hb2 hcur2 hol w' (by rw [hw]))) hfit hb (by rw [hnl]; omega) hnew1
    refine (Qzj w (some ⟨b, 0, none⟩) i c 1 _ (by omega) (fun _ => rfl) ⟨_, _, rfl⟩ hle (by omega) (fun h => by cases h) _ _ hap).mono ?_
    rintro e w' ⟨rfl, rfl⟩
    refine ⟨rfl, w.drawn, ?_⟩
    have e1 : splice cur.toList (0 + i * 12) ((us.drop o2).take 12) = (vs.take (i * 12) ++ (us.drop o2).take 12 ++ vs.drop (i * 12)) ++ rest.drop 12 := by
     have h2 : vs.take (i * 12) = vs := Znn (by omega)
     have h3 : vs.drop (i * 12) = [] := Zl2 (by omega)
     rw [h2, h3, hcur, Zk7, Qrf vs rest _ _ (by omega), hnl, Zma]
    rw [e1]
    rfl
 grow := fun w base len c i vs b2 o2 c2 cur2 T2 us rest2 hnil hlies hvl hb2 hcur2 hol hi hc h1v h1u hroomy => by
  subst hc
  have hle := (Bd hroomy).2
  have hnew1 : ∀ v ∈ (us.drop o2).take 12, v.oneCell' = true := fun v hv => h1u v (Zm8 (Zlz hv))
  have hnl : ((us.drop o2).take 12).length = 12 := by simp only [Znc, Zm3]; omega
  obtain ⟨zv, hzv, hzs⟩ : ∃ zv, zer Tryz.prog 91 = some zv /\ zv.cells.size = 12 := by
   have := zcE
   cases hq : zer Tryz.prog 91 with
   | none => rw [hq] at this; cases this
   | some z => rw [hq] at this; exact ⟨z, rfl, by simpa using this⟩
  have hzl : ∀ k, (zerosN zv.cells.toList k).length = k * 12 := fun k => by rw [Jb, Zmb, hzs]
  have hb2s : b2 < w.heap.size := (Zk4.1 hb2).1
  rcases Zkx i c with hlt | hge
  . cases base with
    | none => exact absurd (hnil rfl).1 (by omega)
    | some a =>
      obtain ⟨ab, ao, asp⟩ := a
      obtain ⟨h1, h2, hL⟩ := hlies _ rfl
      simp only at h1 h2 hL
      subst h1
      subst h2
      have habs : ab < w.heap.size := block_lt_of_cell (hL 0 _ (Zkv (by omega)))
      have hold : ∀ w' : World, w'.heap = w.heap -> (Builtin.firstCells 12 i (.slice (some ⟨ab, 0, none⟩) i c)).run Tryz.prog w' = .ok ⟨vs.take (i * 12)⟩ w' := fun w' hw => by
       have h1 := (Qda (w' := w') (by rw [hw]) hL)
       exact Zr (P := Tryz.prog) (esz := 12) (k := i) (n := c) (cap := c) h1 hvl hi i
      have hk : ((c : Int) + ((1 : Nat) : Int) - (i : Int)) = ((c + 1 - i : Nat) : Int) := by omega
      have htot : i + (c + 1 - i) = c + 1 := by omega
      have hgrow := fun ty => AM.run_append_grow (P := Tryz.prog) (w := w) (ty := ty) (ts := #[63, 3]) (t := 63) (t2 := 3) rfl rfl uS zE byE hzv (base := some ⟨ab, 0, none⟩) (sLen := i) (sCap := c) rfl
       (.zeros ((c + 1 - i : Nat) : Int) .i64 zv uI (by omega) (by
         rw [Zm7]
         unfold Yw at hroomy ⊢
         have h96 : (c + 1 - i) * 96 <= (c + 1) * 96 := Zm1 _ (by omega)
         simp only [Zlm, decide_eq_true_eq] at hroomy ⊢
         omega) hzv hzs) hold (by rw [Zm7]; omega) (by rw [Zm7, htot]; exact hroomy)
      obtain ⟨G, hG, hap0⟩ := hgrow 0
      simp only [Zm7, htot] at hG hap0
      obtain ⟨row0, hrow0⟩ : ∃ row0, row0 = vs.take (i * 12) ++ zerosN zv.cells.toList (c + 1 - i) ++ zerosN zv.cells.toList (G - (c + 1)) := ⟨_, rfl⟩
      rw [<- hrow0] at hap0
      have hap : ∀ ty, (Builtin.append_ #[63, 3] ty #[.slice (some ⟨ab, 0, none⟩) i c, .int .i64 ((c : Int) + ((1 : Nat) : Int) - (i : Int))]).run Tryz.prog w = .ok (.slice (some ⟨w.heap.size, 0, none⟩) (c + 1) G) { w with heap := w.heap.push (.cells ⟨row0⟩ 91), drawn := w.drawn + 1 } := fun ty => by
       rw [hk]; exact hap0
      obtain ⟨w1, hw1⟩ : ∃ w1 : World, w1 = { w with heap := w.heap.push (.cells ⟨row0⟩ 91), drawn := w.drawn + 1 } := ⟨_, rfl⟩
      rw [<- hw1] at hap
      have hN : w1.heap[w.heap.size]? = some (.cells ⟨row0⟩ 91 (0, 0)) := by rw [hw1]; simp
      have hO : ∀ k, k < w.heap.size -> w1.heap[k]? = w.heap[k]? := fun k hk => by
       rw [hw1]; simp only [Array.getElem?_push, if_neg (show ¬ k = w.heap.size by omega)]
      have hr0l : row0.length = G * 12 := by
       rw [hrow0]; simp only [Zl3, hzl, Znc]; omega
      have htl : (vs.drop (i * 12)).length = (c - i) * 12 := by rw [Zm3, hvl, Nat.sub_mul]
      have hcp1 : ∀ ty dc, (Builtin.copy_ #[63, 63] ty #[.slice (some ⟨w.heap.size, i * 12, none⟩) (c + 1 - i) dc, .slice (some ⟨b2, o2, none⟩) 1 c2]).run Tryz.prog w1 = .ok (goInt (1 : Nat)) (w1.setRow w.heap.size ⟨splice row0 (i * 12) ((us.drop o2).take 12)⟩) := fun ty dc =>
       Qgj (t := 63) (ts := #[63, 63]) rfl uS zE hN (fun _ => rfl) (by simp only [Nat.min_def]; split <;> omega) (Qlq hb2 hcur2 hol _ (hO _ hb2s)) (by rw [hnl]; show i * 12 + 12 <= row0.length; rw [hr0l]; omega) hnew1
      obtain ⟨w2, hw2⟩ : ∃ w2 : World, w2 = w1.setRow w.heap.size ⟨splice row0 (i * 12) ((us.drop o2).take 12)⟩ := ⟨_, rfl⟩
      rw [<- hw2] at hcp1
      have hs1 : (splice row0 (i * 12) ((us.drop o2).take 12)).length = G * 12 := by
       rw [Ym _ _ _ (by rw [hnl, hr0l]; omega), hr0l]
      have hN2 : w2.drew.heap[w.heap.size]? = some (.cells ⟨splice row0 (i * 12) ((us.drop o2).take 12)⟩ 91 (0, 0)) := by
       rw [hw2]; exact setRow_heap w1 w.heap.size _ _ _ (0, 0) hN
      have hsrc2 : ∀ sc, (Builtin.firstCells 12 (c - i) (.slice (some ⟨ab, i * 12, none⟩) (c - i) sc)).run Tryz.prog w2.drew = .ok ⟨vs.drop (i * 12)⟩ w2.drew := fun sc => by
       have hh : w2.drew.heap[ab]? = w.heap[ab]? := by
        rw [hw2]
        change (w1.setRow w.heap.size _).heap[ab]? = _
        rw [setRow_other _ _ _ _ (by omega), hO _ habs]
       have h1 := (Qda hh hL).take (i * 12) ((c - i) * 12)
       rw [Zk7, <- htl, Zm5] at h1
       have := Zr (P := Tryz.prog) (esz := 12) (k := c - i) (n := c - i) (cap := sc) h1 htl (Zk0 _) (c - i)
       rw [this, <- htl, Zm5]
      have hcp2 : ∀ ty dc sc, (Builtin.copy_ #[63, 63] ty #[.slice (some ⟨w.heap.size, (i + 1) * 12, none⟩) (c + 1 - (i + 1)) dc, .slice (some ⟨ab, i * 12, none⟩) (c - i) sc]).run Tryz.prog w2.drew =
       .ok (goInt ((c - i : Nat) : Int)) (w2.drew.setRow w.heap.size ⟨splice (splice row0 (i * 12) ((us.drop o2).take 12)) ((i + 1) * 12) (vs.drop (i * 12))⟩) := fun ty dc sc =>
       Qgj (t := 63) (ts := #[63, 63]) rfl uS zE hN2 (fun _ => rfl) (by simp only [Nat.min_def]; split <;> omega) (hsrc2 sc) (by rw [htl]; show (i + 1) * 12 + (c - i) * 12 <= (splice row0 (i * 12) ((us.drop o2).take 12)).length; rw [hs1]; omega) (fun v hv => h1v v (Zm8 hv))
      refine (Q5o w ab w.heap.size c c i 1 G b2 o2 c2 (by omega) hlt (Zk0 _) (by omega) hG hle w1 w2 _ hap hcp1 hcp2).mono ?_
      rintro e w' ⟨rfl, rfl⟩
      refine ⟨G, w.drawn + 2, 91, zerosN zv.cells.toList (G - (c + 1)), hG, hzl _, rfl, ?_⟩
      have e1 : splice (splice row0 (i * 12) ((us.drop o2).take 12)) ((i + 1) * 12) (vs.drop (i * 12)) = (vs.take (i * 12) ++ (us.drop o2).take 12 ++ vs.drop (i * 12)) ++ zerosN zv.cells.toList (G - (c + 1)) := by
       rw [hrow0, show (i + 1) * 12 = i * 12 + 12 by omega]
       exact Qol _ _ _ _ _ (i * 12) 12 (by rw [Znc]; omega) hnl (by rw [hzl, htl]; omega)
      rw [e1, hw2, hw1]
      change ((({ w with heap := w.heap.push (.cells ⟨row0⟩ 91), drawn := w.drawn + 2 } : World).setRow w.heap.size _).setRow w.heap.size _) = _
      rw [setRow_setRow]
      exact Qu6 { w with drawn := w.drawn + 2 } ⟨row0⟩ _ 91 w.heap
  . have hie : i = c := by omega
    subst hie
    have hold : ∀ w' : World, w'.heap = w.heap -> (Builtin.firstCells 12 i (.slice base i i)).run Tryz.prog w' = .ok ⟨vs⟩ w' := fun w' hw => by
     cases base with
     | none =>
       obtain ⟨h0, _⟩ := hnil rfl
       subst h0
       have : vs = [] := Zna (by omega)
       subst this
       simp [Builtin.firstCells]
     | some a =>
       obtain ⟨ab, ao, asp⟩ := a
       obtain ⟨h1, h2, hL⟩ := hlies _ rfl
       simp only at h1 h2 hL
       subst h1
       subst h2
       have := Zr (P := Tryz.prog) (esz := 12) (k := i) (n := i) (cap := i) (Qda (w' := w') (by rw [hw]) hL) hvl (Zk0 _) i
       rw [this, <- hvl, Zm5]
    have hgrow := fun ty => AM.run_append_grow (P := Tryz.prog) (w := w) (ty := ty) (ts := #[63, 63]) (t := 63) (t2 := 63) rfl rfl uS zE byE hzv (base := base) (sLen := i) (sCap := i) (m := 1) (x := .slice (some ⟨b2, o2, none⟩) 1 c2) rfl
     (.other _ 1 _ _ uS (fun k e => by cases e) (fun _ => rfl) (fun w' hw => Qlq hb2 hcur2 hol w' (by rw [hw]))) hold (by omega) hroomy
    obtain ⟨G, hG, hap0⟩ := hgrow 0
    refine (Qzj w base i i 1 _ (by omega) (fun _ => rfl) ⟨_, _, rfl⟩ hle (Zk0 _) (fun h => (hnil h).2) _ _ (fun ty => hap0)).mono ?_
    rintro e w' ⟨rfl, rfl⟩
    refine ⟨G, w.drawn + 1, 91, zerosN zv.cells.toList (G - (i + 1)), hG, hzl _, rfl, ?_⟩
    have h2 : vs.take (i * 12) = vs := Znn (by omega)
    have h3 : vs.drop (i * 12) = [] := Zl2 (by omega)
    rw [h2, h3, Zma]
end Go.Proofs.YteagpfbdmiihaaaGreatDoor
end
