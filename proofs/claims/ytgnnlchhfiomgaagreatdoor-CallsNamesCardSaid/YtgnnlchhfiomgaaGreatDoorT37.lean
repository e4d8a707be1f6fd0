/- This file holds in one the texts DV, E13, DV2, DZ; each says at its head what it proves. -/
import Derived.Test.YtgnnlchhfiomgaaGreatDoorT28
import Derived.Test.YtgnnlchhfiomgaaGreatDoorT29
import Derived.Test.YtgnnlchhfiomgaaGreatDoorT31
import Derived.Test.YtgnnlchhfiomgaaGreatDoorT33
import Derived.Test.YtgnnlchhfiomgaaGreatDoorT36
import Derived.Lib.AppendZeros
set_option linter.unusedSimpArgs false
set_option linter.unusedVariables false
namespace Go.Proofs.YtgnnlchhfiomgaaGreatDoor
section
set_option maxRecDepth 100000
open Go.AM Go.AM.BM
attribute [local irreducible] U W
theorem Y8 {v : V} {a : Int} (h : Qem v = some a) : v = .int .i64 a := by
 unfold Qem at h
 split at h
 . cases h; rfl
 . cases h
theorem Qar {v : V} {a : Int} (h : Qk3 v = some a) : v = .int .u32 a := by
 unfold Qk3 at h
 split at h
 . cases h; rfl
 . cases h
theorem Q3l {v : V} {a : Int} (h : u8D v = some a) : v = .int .u8 a := by
 unfold u8D at h
 split at h
 . cases h; rfl
 . cases h
theorem Qzn {v : V} {l : List UInt8} (h : Qwn v = some l) : Q1 v l /\ l.length <= 4096 := by
 unfold Qwn at h
 split at h
 case h_2 => cases h
 rename_i c hc
 split at h
 case isFalse => cases h
 rename_i hl
 cases h
 obtain ⟨l, rfl, h1, h2⟩ := Qgc hc
 have e : (Qj l).map Q3q = l := by
  simp only [Qj, List.map_map]
  have : (Q3q ∘ fun b : UInt8 => V.int .u8 b.toNat) = id := by
   funext b
   show UInt8.ofNat b.toNat = b
   simp
  rw [this, List.map_id]
 have hl2 := Zlt hl
 rw [Yn] at hl2
 rw [e]
 exact ⟨h1, hl2⟩
theorem Q6j {v : V} {n : Nat} (h : lenD v = some n) : Qgn v n := by
 unfold lenD at h
 split at h
 . cases h; exact ⟨[], Zn.nil⟩
 . split at h
   case isFalse => cases h
   rename_i c m fl hc
   cases h
   simp only [Zki] at hc
   exact ⟨c, Zn.mk (by rw [Zmb hc.1, Zkt])⟩
 . cases h
theorem Q8h {v : V} (h : low2 v = true) : ∃ b : UInt8, v = .int .u8 b.toNat /\ b <= 2 := by
 unfold low2 at h
 split at h
 . rename_i n
   have hn := Zlt h
   have e : (UInt8.ofNat n).toNat = n := by simp; omega
   refine ⟨UInt8.ofNat n, by rw [e]; rfl, ?_⟩
   rw [UInt8.le_iff_toNat_le, e]; exact hn
 . cases h
theorem Qyt : ∀ {c : List V}, c.all low2 = true -> ∃ l : List UInt8, c = Qj l /\ l.all (fun b => b <= 2) = true
 | [], _ => ⟨[], rfl, rfl⟩
 | v :: r, h => by
   simp only [List.all_cons, Zki] at h
   obtain ⟨b, rfl, hb⟩ := Q8h h.1
   obtain ⟨l, rfl, hl⟩ := Qyt h.2
   exact ⟨b :: l, rfl, by simp only [List.all_cons, Zki]; exact ⟨by simpa using hb, hl⟩⟩
theorem is1_ok {b : UInt8} (h : is1 (.int .u8 b.toNat) = true) : b = 1 := by
 have h1 : Nat.beq b.toNat 1 = true := h
 have h2 := Zmb h1
 exact UInt8.toNat_inj.1 h2
theorem Qzm : ∀ {l : List UInt8}, (Qj l).all is1 = true -> l.count 1 = l.length
 | [], _ => rfl
 | b :: r, h => by
   have h' : (is1 (.int .u8 b.toNat) && (Qj r).all is1) = true := h
   simp only [Zki] at h'
   rw [is1_ok h'.1, List.count_cons_self, Qzm h'.2, Zj9]
theorem spV_ok (l : List UInt8) (i : Nat) : spV (Qj l) i = Qen l i := by
 show byteI ((Qj l).getD i .bad) = _
 rw [List.getD_eq_getElem?_getD, Qat]
 unfold Qen
 rw [List.getD_eq_getElem?_getD]
 cases l[i]? <;> rfl
theorem Q51 {v : V} {t : List V × Bool} (h : Qwp v = some t) : ∃ l : List UInt8, t.1 = Qj l /\ Q1 v l /\ Qad l = t.2 := by
 unfold Qwp at h
 split at h
 . cases h; exact ⟨[], rfl, Zn.nil, rfl⟩
 . split at h
   case isFalse => cases h
   rename_i c n fl hc
   cases h
   simp only [Zki] at hc
   obtain ⟨h1, h2, h3, h4⟩ := hc
   obtain ⟨l, rfl, hl⟩ := Qyt h3
   have e1 := Zmb h1
   have e2 := Zmb h2
   rw [Yn] at e2
   refine ⟨l, rfl, ?_, ?_⟩
   . rw [e1]
     have := Q1.mk l fl
     rwa [e2] at this
   . rw [Qdq] at h4
     have h5 := Qzm h4
     rw [Zl6, e2] at h5
     have h5 : (l.take 12).count 1 = 12 := h5
     simp only [Qad, e2, hl, h5]; rfl
 . cases h
theorem Qja {α : Type} {f : List V -> Option (List α)} {v : V} {l : List α} (h : slD f v = some l) : ∃ cs, (v = .nS /\ l = [] /\ cs = [] \/ ∃ fl, v = .iS cs l.length fl /\ f cs = some l) /\ l.length <= 900 := by
 unfold slD at h
 split at h
 . cases h; exact ⟨[], .inl ⟨rfl, rfl, rfl⟩, by simp⟩
 . rename_i c n fl
   split at h
   case h_2 => cases h
   rename_i l' hl
   split at h
   case isFalse => cases h
   rename_i hc
   cases h
   simp only [Zki] at hc
   have e := Zmb hc.1
   have e2 := Zlt hc.2
   subst e
   exact ⟨c, .inr ⟨fl, rfl, hl⟩, e2⟩
 . cases h
theorem Qle {a b c d e : V} {p : Kh} (h : ptrD a b c d e = some p) : [a, b, c, d, e] = p.cells := by
 simp only [ptrD, Zk8] at h
 obtain ⟨_, h1, _, h2, _, h3, _, h4, _, h5, h6⟩ := h
 cases h6
 rw [Y8 h1, Qar h2, Qar h3, Qar h4, Qar h5]; rfl
theorem Qvd : ∀ {cs : List V} {l : List Int}, Qy2 cs = some l -> cs = Q3 l
 | [], l, h => by cases h; rfl
 | v :: r, l, h => by
   simp only [Qy2, Zk8] at h
   obtain ⟨a, h1, l', h2, h3⟩ := h
   cases h3
   rw [Y8 h1, Qvd h2]; rfl
theorem Qtg : ∀ {cs : List V} {l : List (List UInt8)}, Qp2 cs = some l -> Qh4 cs l /\ ∀ k ∈ l, k.length <= 4096
 | [], l, h => by cases h; exact ⟨rfl, by simp⟩
 | v :: r, l, h => by
   simp only [Qp2, Zk8] at h
   obtain ⟨a, h1, l', h2, h3⟩ := h
   cases h3
   obtain ⟨h4, h5⟩ := Qzn h1
   obtain ⟨h6, h7⟩ := Qtg h2
   exact ⟨⟨v, r, rfl, h4, h6⟩, by simpa using ⟨h5, h7⟩⟩
theorem Qvn : ∀ {cs : List V} {l : List Kh}, Qud cs = some l -> cs = Qc8 l
 | [], l, h => by cases h; rfl
 | a :: b :: c :: d :: e :: r, l, h => by
   simp only [Qud, Zk8] at h
   obtain ⟨p, h1, l', h2, h3⟩ := h
   cases h3
   have e1 := Qle h1
   have e2 := Qvn h2
   show [a, b, c, d, e] ++ r = p.cells ++ Qc8 l'
   rw [e1, e2]
 | [_], l, h => by cases h
 | [_, _], l, h => by cases h
 | [_, _, _], l, h => by cases h
 | [_, _, _, _], l, h => by cases h
theorem Q2c {v : V} {l : List Kh} (h : slD Qud v = some l) : Qd4 v l := by
 obtain ⟨cs, h1 | ⟨fl, rfl, h2⟩, h3⟩ := Qja h
 . obtain ⟨rfl, rfl, rfl⟩ := h1
   exact Zn.nil
 . rw [Qvn h2]
   exact Zn.mk (Qqc l)
theorem Qql : ∀ (n : Nat) {cs : List V} {l : List Jj}, cs.length <= n -> Qmr cs = some l -> LinesC cs l
 | n, [], l, _, h => by
   simp only [Qmr, Zmk] at h
   subst h; rfl
 | 0, a :: r, l, hn, h => by simp at hn
 | n + 1, a :: r, l, hn, h => by
   unfold Qmr at h
   split at h
   . cases h; rename_i e; cases e
   . rename_i a' b c d e f g hh i j k ll m r' heq
     cases heq
     simp only [Zk8] at h
     obtain ⟨_, h1, _, h2, _, h3, _, h4, _, h5, _, h6, _, h7, p, h8, q, h9, l', h10, h11⟩ := h
     cases h11
     have e8 := Qle h8
     rw [Y8 h1, Q3l h2, Y8 h3, Y8 h4, Qar h5, Qar h6, Y8 h7]
     have e9 : hh = .int .i64 p.at_ /\ i = .int .u32 p.birth /\ j = .int .u32 p.iv /\ k = .int .u32 p.tag /\ ll = .int .u32 p.sum := by
      simp only [Kh.cells, List.cons.injEq, and_true] at e8
      exact e8
     obtain ⟨rfl, rfl, rfl, rfl, rfl⟩ := e9
     exact ⟨m, r', rfl, Q2c h9, Qql n (by simp only [Zj9] at hn; omega) h10⟩
   . cases h
theorem Qf1 : ∀ (n : Nat) {cs : List V} {l : List Ji}, cs.length <= n -> Qdi cs = some l -> ChangesC cs l
 | n, [], l, _, h => by
   simp only [Qdi, Zmk] at h
   subst h; rfl
 | 0, a :: r, l, hn, h => by simp at hn
 | n + 1, a :: r, l, hn, h => by
   unfold Qdi at h
   split at h
   . cases h; rename_i e; cases e
   . rename_i a' b c d e f g hh i j k ll r' heq
     cases heq
     simp only [Zk8] at h
     obtain ⟨_, h1, _, h2, _, h3, _, h4, _, h5, _, h6, q, h7, p, h8, l', h10, h11⟩ := h
     cases h11
     have e8 := Qle h8
     rw [Y8 h1, Y8 h2, Y8 h3, Q3l h4, Y8 h5, Y8 h6]
     have e9 : hh = .int .i64 p.at_ /\ i = .int .u32 p.birth /\ j = .int .u32 p.iv /\ k = .int .u32 p.tag /\ ll = .int .u32 p.sum := by
      simp only [Kh.cells, List.cons.injEq, and_true] at e8
      exact e8
     obtain ⟨rfl, rfl, rfl, rfl, rfl⟩ := e9
     exact ⟨g, r', rfl, Q6j h7, Qf1 n (by simp only [Zj9] at hn; omega) h10⟩
   . cases h
theorem frz_i {k : IntKind} {n : Int} {g : Get} {m : Nat} {v : V} (h : frz g m v = some (.int k n)) : v = .int k n := by
 cases m with
 | zero => cases h
 | succ m =>
   cases v <;> simp only [frz] at h <;> first
    | exact Option.some.inj h
    | (simp only [Zk7, reduceCtorEq, and_false, exists_false] at h)
    | (split at h <;> first
        | (split at h <;> simp only [Zk7, reduceCtorEq, and_false, exists_false] at h)
        | (simp only [Zk7, Zmk, reduceCtorEq, and_false, exists_false] at h)
        | cases h)
    | cases h
theorem frzN_i {k : IntKind} {n : Int} {g : Get} {m : Nat} {v : V} (h : frzN g m v = some (.int k n)) : v = .int k n := by
 cases m with
 | zero => cases h
 | succ m =>
   cases v <;> simp only [frzN] at h <;> first
    | exact Option.some.inj h
    | (simp only [Zk7, reduceCtorEq, and_false, exists_false] at h)
    | (split at h <;> first
        | (split at h <;> simp only [Zk7, reduceCtorEq, and_false, exists_false] at h)
        | (simp only [Zk7, Zmk, reduceCtorEq, and_false, exists_false] at h)
        | cases h)
    | cases h
theorem Q3x {bv wv sv : V} {r : List V} {p : Qka} (h : Q2w (bv :: wv :: sv :: r) = some p) : ∃ mv lv kv ov cv, bv :: wv :: sv :: r = Q3p bv wv sv mv lv kv ov cv p /\ Bk mv p.own /\ Qgd lv p.lines /\ Qjc kv p.keys /\ Qjc ov p.loaded /\ Qdk cv p.changes /\
 (p.own.length <= 1000000 /\ p.lines.length <= 1000000 /\ p.changes.length <= 1000000 /\ p.keys.length <= 1000 /\ p.loaded.length <= 1000 /\ (∀ k ∈ p.keys, k.length <= 1000000) /\ (∀ k ∈ p.loaded, k.length <= 1000000)) := by
 unfold Q2w at h
 split at h
 case h_2 => cases h
 rename_i b' w' s' e c g ra rb rc rd re mv lv kv ov cv lg ni ng heq
 cases heq
 simp only [Zk8] at h
 obtain ⟨_, h2, _, h3, _, h4, p, h5, m, h6, ls, h7, ks, h8, os, h9, cs, h10, _, h11, _, h12, _, h13, h14⟩ := h
 cases h14
 have e5 := Qle h5
 have e9 : ra = .int .i64 p.at_ /\ rb = .int .u32 p.birth /\ rc = .int .u32 p.iv /\ rd = .int .u32 p.tag /\ re = .int .u32 p.sum := by
  simp only [Kh.cells, List.cons.injEq, and_true] at e5
  exact e5
 obtain ⟨rfl, rfl, rfl, rfl, rfl⟩ := e9
 rw [Qar h2, Qar h3, Qar h4, Y8 h11, Y8 h12, Qar h13]
 have i6 : Bk mv m /\ m.length <= 900 := by
  obtain ⟨cs, h1 | ⟨fl, rfl, h2⟩, h3⟩ := Qja h6
  . obtain ⟨rfl, rfl, rfl⟩ := h1
    exact ⟨Zn.nil, h3⟩
  . rw [Qvd h2]; exact ⟨Bk.mk _ _, h3⟩
 have i7 : Qgd lv ls /\ ls.length <= 900 := by
  obtain ⟨cs, h1 | ⟨fl, rfl, h2⟩, h3⟩ := Qja h7
  . obtain ⟨rfl, rfl, rfl⟩ := h1
    exact ⟨⟨[], rfl, Zn.nil⟩, h3⟩
  . have hc := Qql _ (Zjw _) h2
    exact ⟨⟨cs, hc, Zn.mk hc.len⟩, h3⟩
 have iR : ∀ {x : V} {l : List (List UInt8)}, slD Qp2 x = some l -> Qjc x l /\ l.length <= 900 /\ ∀ k ∈ l, k.length <= 1000000 := by
  intro x l hx
  obtain ⟨cs, h1 | ⟨fl, rfl, h2⟩, h3⟩ := Qja hx
  . obtain ⟨rfl, rfl, rfl⟩ := h1
    exact ⟨⟨[], rfl, Zn.nil⟩, h3, by simp⟩
  . obtain ⟨hc, hb⟩ := Qtg h2
    exact ⟨⟨cs, hc, Zn.mk (by rw [hc.len, Zkt])⟩, h3, fun k hk => Zjx (hb k hk) (by decide)⟩
 have i10 : Qdk cv cs /\ cs.length <= 900 := by
  obtain ⟨cs, h1 | ⟨fl, rfl, h2⟩, h3⟩ := Qja h10
  . obtain ⟨rfl, rfl, rfl⟩ := h1
    exact ⟨⟨[], rfl, Zn.nil⟩, h3⟩
  . have hc := Qf1 _ (Zjw _) h2
    exact ⟨⟨_, hc, Zn.mk hc.len⟩, h3⟩
 obtain ⟨k1, k2, k3⟩ := iR h8
 obtain ⟨o1, o2, o3⟩ := iR h9
 exact ⟨mv, lv, kv, ov, cv, rfl, i6.1, i7.1, k1, o1, i10.1, by simp only; omega, by simp only; omega, by simp only; omega, by simp only; omega, by simp only; omega, k3, o3⟩
theorem Q3k {v : V} (h : isI v = true) : (∀ g m, frz g (m + 1) v = some v) /\ (∀ q, v.refs q = false) /\ v.scalar = true := by
 cases v <;> first | exact ⟨fun _ _ => rfl, fun _ => rfl, rfl⟩ | cases h
theorem Q6f (ys : List V) (v : V) (h : kTxg ys = some v) : FzN Tryz.prog Qz 10 ys v := by
 unfold kTxg at h
 split at h
 case h_2 => cases h
 rename_i bv wv sv r
 split at h
 case isFalse => cases h
 rename_i hi
 simp only [Zki] at hi
 split at h
 case h_2 => cases h
 rename_i d hd
 simp only [Zk8] at h
 obtain ⟨t, h0, p, h1, h2⟩ := h
 cases h2
 obtain ⟨l, t1, t2, t3⟩ := Q51 h0
 have t4 : spV t.1 = Qen l := by rw [t1]; funext i; exact spV_ok l i
 rw [t4, <- t3]
 obtain ⟨b1, b2, b3⟩ := Q3k hi.1
 obtain ⟨w1, w2, w3⟩ := Q3k hi.2
 obtain ⟨v0, H0, e1, e2⟩ := Qqu _ _ hd
 have e3 := frzN_i e2
 subst e3
 obtain ⟨mv, lv, kv, ov, cv, e4, q2, q3, q4, q5, q6, q7⟩ := Q3x h1
 rw [e4]
 have hp : Q14 bv wv sv mv lv kv ov cv d l p := {
  dev := ⟨_, _, _, e1, rfl, rfl⟩
  frz := by
   show Option.map V.agg (Zb (frz _ 11) [bv, wv]) = _
   rw [Qt (b1 _ _) (Qt (w1 _ _) rfl)]; rfl
  frz0 := fun g m => ⟨b1 _ _, w1 _ _⟩
  nr := fun q => ⟨b2 q, w2 q⟩
  sb := b3
  sw := w3
  space := t2, own := q2, lines := q3, keys := q4, loaded := q5, changes := q6, fit := q7 }
 obtain ⟨x, H', y, f1, f2, rfl⟩ := Q3r hp
 have f3 := frz_i f2
 subst f3
 exact ⟨_, _, f1, rfl⟩
end
section
set_option maxRecDepth 100000
open Go.AM
attribute [local irreducible] U W
theorem Qin (c : Ji) (av : V) (ha : Qgn av c.n) (s o i : Int) : Fz Tryz.prog Qz 331 [.agg (Jc c av), .agg [.int .i64 s, .int .i64 o, .int .i64 i]] fun x => x = .int .i64 (Qm7 c s o i) := by
 refine Jt Tryz.func331 rfl ?_
 obtain ⟨ca, ha⟩ := ha
 have sa := Qcw ha
 obtain ⟨m, rfl, hm⟩ := (Xa c.set s).op (by rfl) rfl
 have hm1 : ∀ s H, _ := fun s H => hm 331 0 s H rfl
 obtain ⟨m, rfl, hm⟩ := (Xa c.obj o).op (by rfl) rfl
 have hm2 : ∀ s H, _ := fun s H => hm 331 0 s H rfl
 obtain ⟨m, rfl, hm⟩ := (Xa c.index i).op (by rfl) rfl
 have hm3 : ∀ s H, _ := fun s H => hm 331 0 s H rfl
 obtain ⟨m, rfl, hm⟩ := (or_fz (.iS [.int .i64 (Qag c.set s), .int .i64 (Qag c.obj o), .int .i64 (Qag c.index i)] 3 true) [Qag c.set s, Qag c.obj o, Qag c.index i] (Bk.mk _ _) (by simp)).op (by rfl) rfl
 have hm4 : ∀ s H, _ := fun s H => hm 331 0 s H rfl
 have mt : Qz.mt 331 20 = false := by rfl
 simp only [Qn, Qf, Qg, Ql, Qa, Qc, nov, gd, rho, Qe, wr, simprocAttr, Qi, ↓Qh, Tryz.ntmps331, ta, new, Qb, hset, Qu, Qs, Qp, splice, zerosN, Qo, Qq, Qk, V.pure, Qr, Jc, sa, hm1, hm2, hm3, hm4, Tryz.underlying32, sz3, zc3, Zj9, Zlg, Zky, mt]
 repeat' ((first | refine W.guardF ?_ ?_ | refine W.guardT ?_ ?_ | refine W.guardXF ?_ ?_ | refine W.guardXT ?_ ?_ | refine W.ite ?_ ?_ | refine W.opsK1 (by kernel_rfl) ?_) <;> intro h <;> simp only [Qn, Qf, Qg, Ql, Qa, Qc, nov, gd, rho, Qe, wr, simprocAttr, Qi, ↓Qh, h, mt])
 all_goals refine W.done (Zu.ret rfl rfl ?_)
 all_goals first | rfl | (simp only [Qm7, *, Js, if_true, if_false]; try rfl)
set_option maxHeartbeats 4000000 in
theorem Q8k (v : V) (ls : List Ji) (hv : Qdk v ls) (hl : ls.length <= 1000000) (s o x : Int) :
 Fz Tryz.prog Qz 330 [v, .agg [.int .i64 s, .int .i64 o, .int .i64 x], .func (.func 331) [] []] fun y => y = .tuple [.int .i64 (bs (cCh ls s o x) ls.length), .bool (Qjr (cCh ls s o x) ls.length)] := by
 refine Jt Tryz.func330 rfl ?_
 obtain ⟨cs, hc, hv⟩ := hv
 have len := hv.len Tryz.underlying34
 have sc := Qcw hv
 simp only [Qn, Qf, Qg, Ql, Qa, Qc, nov, gd, rho, Qe, wr, simprocAttr, Qi, ↓Qh, Tryz.ntmps330, ta, new, Qb, hset, Qu, Qs, Qp, splice, zerosN, Qo, Qq, Qk, V.pure, Qr, len]
 refine W.ul ?_
 refine W.loopS (kt := [0, 2, 4, 8, 9, 10]) rfl (fun a : Nat × Nat => Qzl v (.func (.func 331) [] []) (.ptr 0 4 0) (.int .i64 ls.length) (.int .i64 a.1) (.int .i64 a.2)) (fun _ => [[(4, .cells [.int .i64 s, .int .i64 o, .int .i64 x])]])
  (fun a => a.1 <= a.2 /\ a.2 <= ls.length /\ Qgm (cCh ls s o x) (a.2 - a.1) a.1 a.2 = bs (cCh ls s o x) ls.length) (fun a => a.2 - a.1) ?_ (0, ls.length) ⟨by simp, by simp, rfl⟩ rfl rfl
 rintro ⟨i, j⟩ ⟨hij, hj, hR⟩
 simp only at hij hj hR
 simp only [Qzl]
 by_cases h : i < j
 . have c1 : decide ((i : Int) < j) = true := Zmo (by omega)
   have wa : (IntKind.i64).wrap ((i : Int) + j) = ((i + j : Nat) : Int) := by rw [wrap_i64] <;> omega
   have hm : (i + j) / 2 < ls.length := by omega
   have at1 := hv.at (k := .i64) Tryz.underlying34 sz75 (by decide) (i := (((i + j) / 2 : Nat) : Int)) (by omega) (by omega)
   obtain ⟨dv, hd, ld⟩ := hc.ld hm
   have ld' : ∀ g, ldV Tryz.prog 75 g (.iptr cs ((((i + j) / 2 : Nat) : Int).toNat * 12)) = _ := ld
   have cv1 := fun g => Qyo g (i + j) (by omega)
   have cv2 := fun g => Qyu g ((i + j) / 2) (by omega)
   have sh : ∀ p q, Zz Tryz.prog .shr 211 p q (.int .u64 ((i + j : Nat) : Int)) (.int .u64 1) = _ := fun p q => Q4g (i + j)
   obtain ⟨m, rfl, hm2⟩ := (Qin ls[(i + j) / 2] dv hd s o x).op (by rfl) (Qt (Qb2 hd) rfl)
   have hm3 : ∀ s H, _ := fun s H => hm2 330 0 s H rfl
   have eL : cCh ls s o x ((i + j) / 2) = Qm7 ls[(i + j) / 2] s o x := by simp only [cCh, Zjr hm]
   have w1 : (IntKind.i64).wrap ((((i + j) / 2 : Nat) : Int) + 1) = (((i + j) / 2 + 1 : Nat) : Int) := by rw [wrap_i64] <;> omega
   rw [<- eL] at hm3
   simp only [Qn, Qf, Qg, Ql, Qa, Qc, nov, gd, rho, Qe, wr, simprocAttr, Qi, ↓Qh, c1, wa, at1, ld', cv1, cv2, sh, hm3, ta, new, Qb, hset, Qu, Qs, Qp, splice, zerosN, Qo, Qq, Qk, V.pure, Qr]
   refine W.opsK (by kernel_rfl) ?_
   simp only [Qn, Qf, Qg, Ql, Qa, Qc, nov, gd, rho, Qe, wr, simprocAttr, Qi, ↓Qh, ta, new, Qb, hset, Qu, Qs, Qp, splice, zerosN, Qo, Qq, Qk, V.pure, Qr]
   refine W.ite ?_ ?_ <;> intro h2 <;> simp only [Qn, Qf, Qg, Ql, Qa, Qc, nov, gd, rho, Qe, wr, simprocAttr, Qi, ↓Qh, ta, new, Qb, hset, Qu, Qs, Qp, splice, zerosN, Qo, Qq, Qk, V.pure, Qr, w1]
   . exact W.done ⟨((i + j) / 2 + 1, j), rfl, rfl, ⟨by simp only; omega, hj, by rw [<- hR, Q3e h h2]⟩, by simp only; omega⟩
   . exact W.done ⟨(i, (i + j) / 2), rfl, rfl, ⟨by simp only; omega, by simp only; omega, by rw [<- hR, Q46 h h2]⟩, by simp only; omega⟩
 . have c1 : decide ((i : Int) < j) = false := Zmp (by omega)
   have e : i = j := by omega
   subst e
   have hi : i = bs (cCh ls s o x) ls.length := by
    rw [<- hR, Nat.sub_self]; rfl
   have key : Qjr (cCh ls s o x) ls.length = (decide (i < ls.length) && decide (cCh ls s o x i = 0)) := by rw [Qjr, <- hi]
   rw [key, <- hi]
   simp only [Qn, Qf, Qg, Ql, Qa, Qc, nov, gd, rho, Qe, wr, simprocAttr, Qi, ↓Qh, c1]
   refine W.done ?_
   by_cases h2 : i < ls.length
   . have c2 : decide ((i : Int) < ls.length) = true := Zmo (by omega)
     have at1 := hv.at (k := .i64) Tryz.underlying34 sz75 (by decide) (i := (i : Int)) (by omega) (by omega)
     obtain ⟨dv, hd, ld⟩ := hc.ld h2
     have ld' : ∀ g, ldV Tryz.prog 75 g (.iptr cs ((i : Int).toNat * 12)) = _ := ld
     obtain ⟨m, rfl, hm2⟩ := (Qin ls[i] dv hd s o x).op (by rfl) (Qt (Qb2 hd) rfl)
     have hm3 : ∀ s H, _ := fun s H => hm2 330 0 s H rfl
     have eL : cCh ls s o x i = Qm7 ls[i] s o x := by simp only [cCh, Zjr h2]
     rw [<- eL] at hm3
     have e0 : (cCh ls s o x i == 0) = decide (cCh ls s o x i = 0) := rfl
     simp only [Qn, Qf, Qg, Ql, Qa, Qc, nov, gd, rho, Qe, wr, simprocAttr, Qi, ↓Qh, c2, at1, ld', hm3, e0, ta, new, Qb, hset, Qu, Qs, Qp, splice, zerosN, Qo, Qq, Qk, V.pure, Qr]
     refine W.opsK (by kernel_rfl) ?_
     simp only [Qn, Qf, Qg, Ql, Qa, Qc, nov, gd, rho, Qe, wr, simprocAttr, Qi, ↓Qh, ta, new, Qb, hset, Qu, Qs, Qp, splice, zerosN, Qo, Qq, Qk, V.pure, Qr]
     rw [Zmo h2, Zlq]
     exact W.done (Zu.ret rfl rfl rfl)
   . have c2 : decide ((i : Int) < ls.length) = false := Zmp (by omega)
     simp only [Qn, Qf, Qg, Ql, Qa, Qc, nov, gd, rho, Qe, wr, simprocAttr, Qi, ↓Qh, c2, ta, new, Qb, hset, Qu, Qs, Qp, splice, zerosN, Qo, Qq, Qk, V.pure, Qr]
     refine W.opsK (by kernel_rfl) ?_
     simp only [Qn, Qf, Qg, Ql, Qa, Qc, nov, gd, rho, Qe, wr, simprocAttr, Qi, ↓Qh, ta, new, Qb, hset, Qu, Qs, Qp, splice, zerosN, Qo, Qq, Qk, V.pure, Qr]
     rw [Zmp h2, Zmc]
     exact W.done (Zu.ret rfl rfl rfl)
end
section
set_option maxRecDepth 100000
open Go.AM Go.AM.BM
theorem frz_b {b : Bool} {g : Get} {m : Nat} {v : V} (h : frz g m v = some (.bool b)) : v = .bool b := by
 cases m with
 | zero => cases h
 | succ m =>
   cases v <;> simp only [frz] at h <;> first
    | exact Option.some.inj h
    | (simp only [Zk7, reduceCtorEq, and_false, exists_false] at h)
    | (split at h <;> first
        | (split at h <;> simp only [Zk7, reduceCtorEq, and_false, exists_false] at h)
        | (simp only [Zk7, Zmk, reduceCtorEq, and_false, exists_false] at h)
        | cases h)
    | cases h
theorem frz_t {l : List V} {g : Get} {m : Nat} {v : V} (h : frz g (m + 1) v = some (.tuple l)) : ∃ cs, v = .tuple cs /\ Zb (frz g m) cs = some l := by
 cases v <;> simp only [frz] at h <;> first
  | (simp only [Zk7, reduceCtorEq, and_false, exists_false] at h; done)
  | (obtain ⟨a, h1, h2⟩ := Zk7.1 h; cases h2; exact ⟨_, rfl, h1⟩)
  | (split at h <;> first
      | (split at h <;> simp only [Zk7, reduceCtorEq, and_false, exists_false] at h)
      | (simp only [Zk7, Zmk, reduceCtorEq, and_false, exists_false] at h)
      | cases h)
  | cases h
theorem frz_ib {k : IntKind} {n : Int} {b : Bool} {g : Get} {m : Nat} {v : V} (h : frz g (m + 1) v = some (.tuple [.int k n, .bool b])) : v = .tuple [.int k n, .bool b] := by
 obtain ⟨cs, rfl, h1⟩ := frz_t h
 match cs, h1 with
 | [], h1 => cases h1
 | [x], h1 =>
   simp only [Zb] at h1
   split at h1
   . rename_i e1 e2
     cases e2; cases h1
   . cases h1
 | x :: y :: r, h1 =>
   simp only [Zb] at h1
   split at h1
   case h_2 => cases h1
   rename_i a l e1 e2
   cases h1
   split at e2
   case h_2 => cases e2
   rename_i a l e3 e4
   cases e2
   cases r with
   | nil => rw [frz_i e1, frz_b e3]
   | cons z r =>
     simp only [Zb] at e4
     split at e4 <;> cases e4
theorem Q48 (ys : List V) (v : V) (h : Qy0 331 ys = some v) : FzN Tryz.prog Qz 330 ys v := by
 unfold Qy0 at h
 split at h
 case h_2 => cases h
 rename_i w s o x g
 split at h
 case isFalse => cases h
 rename_i hg
 have hg2 := Zmb hg
 subst hg2
 simp only [Zk8] at h
 obtain ⟨ls, h1, s', h2, o', h3, x', h4, h5⟩ := h
 cases h5
 rw [Y8 h2, Y8 h3, Y8 h4]
 have i10 : Qdk w ls /\ ls.length <= 900 := by
  obtain ⟨cs, h1 | ⟨fl, rfl, h2⟩, h3⟩ := Qja h1
  . obtain ⟨rfl, rfl, rfl⟩ := h1
    exact ⟨⟨[], rfl, Zn.nil⟩, h3⟩
  . have hc := Qf1 _ (Zjw _) h2
    exact ⟨⟨_, hc, Zn.mk hc.len⟩, h3⟩
 obtain ⟨v0, H', y, f1, f2, rfl⟩ := Q8k w ls i10.1 (by omega) s' o' x'
 have f3 : v0 = .tuple [.int .i64 (bs (cCh ls s' o' x') ls.length), .bool (Qjr (cCh ls s' o' x') ls.length)] := by
  exact frz_ib f2
 subst f3
 exact ⟨_, _, f1, rfl⟩
end
end Go.Proofs.YtgnnlchhfiomgaaGreatDoor
section
set_option maxRecDepth 100000
namespace Go.AM
open Go.RowKit Go.Lib
section
variable {P : Program}
theorem Qix (w : World) {o : Oper} {a : Act} {K : Act -> World -> Prop} {Q : Exit -> Act -> World -> Prop} (d s : Operand) (t t' : TypeId)
 (ho : o.op = .call { callee := .builtin .copy, args := #[d, s], argTypes := #[t, t'] }) (v u : Value) (hd : a.eval d = v) (hs : a.eval s = u) {v' : Value} {w' : World}
 (hr : (Builtin.copy_ #[t, t'] o.type #[v, u]).run P w = .ok v' w') (h : K (a.put o.dst v') w') : o.wp P a w K Q := by
 unfold Oper.wp execOp
 simp only [ho, resolve, invoke, builtin, Zmm, Zmn, Zml, List.map_toArray, Zkd, List.map_nil, hd, hs, hr]
 exact h
theorem Qc9 (w : World) {ops : Array Oper} {rest : List Oper} {o : Oper} {a : Act} {Q : Exit -> Act -> World -> Prop} (hgd : o.guard = none) (d s : Operand) (t t' : TypeId)
 (ho : o.op = .call { callee := .builtin .copy, args := #[d, s], argTypes := #[t, t'] }) (v u : Value) (hd : a.eval d = v) (hs : a.eval s = u) {v' : Value} {w' : World}
 (hr : (Builtin.copy_ #[t, t'] o.type #[v, u]).run P w = .ok v' w') (h : wpList P ops Q rest (a.put o.dst v') w') : wpList P ops Q (o :: rest) a w :=
 wpList_plain hgd fun _ hK => Qix w d s t t' ho v u hd hs hr (hK _ _ h)
theorem Qex {ops : Array Oper} {o : Oper} {a : Act} {w : World} {K : Act -> World -> Prop} {Q : Exit -> Act -> World -> Prop} {E : Prop}
 (hg : o.guard = none) (d x : Operand) (dT sT : TypeId) (hop : o.op = Op.call { callee := Callee.builtin Builtin.copy, args := #[d, x], argTypes := #[dT, sT] })
 (v u : Value) (hd : a.eval d = v) (hx : a.eval x = u) {v' : Value} {w' : World} (hr : (Builtin.copy_ #[dT, sT] o.type #[v, u]).run P w = .ok v' w') (hK : K (a.put o.dst v') w') :
 if Region.wanted o (yielded ops a.tmps) = true then Oper.wp P o a w K Q else E := by
 have hw : Region.wanted o (yielded ops a.tmps) = true := by simp [Region.wanted, hg]
 rw [if_pos hw]
 exact Qix w d x dT sT hop v u hd hx hr hK
end
end Go.AM
namespace Go.Proofs.YtgnnlchhfiomgaaGreatDoor
open Go.AM Go.AM.BM Go.RowKit Go.Lib
theorem uS : Tryz.prog.underlying 34 = some (.slice 75) := by kernel_rfl
theorem uI : Tryz.prog.underlying 3 = some (.int .i64) := by kernel_rfl
theorem uB : Tryz.prog.underlying 4 = some .bool := by kernel_rfl
theorem zE : sz Tryz.prog 75 = some 12 := by kernel_rfl
theorem byE : byt Tryz.prog 75 = some 96 := by kernel_rfl
theorem zcE : (zer Tryz.prog 75).map (fun z => z.cells.size) = some 12 := by kernel_rfl
set_option maxHeartbeats 4000000 in
theorem Q4w 
 (w : World) (b n c i m vb voff vc : Nat) (hm : 0 < m) (hi : i < n) (hroom : n + m <= c) (hn63 : n + m <= 35184372088832) (hov : ∀ lb cb, (callFunc 282 #[.slice (some ⟨vb, voff, none⟩) m vc, .slice (some ⟨b, (i + m) * 12, none⟩) lb cb]).run Tryz.prog w = .ok (.value (.bool false)) w)
 (w1 w2 : World) (hcp1 : ∀ ty dc sc, (Builtin.copy_ #[34, 34] ty #[.slice (some ⟨b, (i + m) * 12, none⟩) (n + m - (i + m)) dc, .slice (some ⟨b, i * 12, none⟩) (n + m - i) sc]).run Tryz.prog w.drew = .ok (goInt ((n - i : Nat) : Int)) w1)
 (hcp2 : ∀ ty dc, (Builtin.copy_ #[34, 34] ty #[.slice (some ⟨b, i * 12, none⟩) (n + m - i) dc, .slice (some ⟨vb, voff, none⟩) m vc]).run Tryz.prog w1 = .ok (goInt m) w2) :
 Calls Tryz.prog 179 #[.slice (some ⟨b, 0, none⟩) n c, .int .i64 i, .slice (some ⟨vb, voff, none⟩) m vc] w fun e w' => e = .returned (.slice (some ⟨b, 0, none⟩) (n + m) c) /\ w' = w2 := by
 have mixed := Tryz.checked.mixed
 have r34 := Qm (P := Tryz.prog) uS; have r3 := Qm (P := Tryz.prog) uI; have r4 := Qm (P := Tryz.prog) uB
 have z129 : ∀ w, (Go.sizeOf 75).run Tryz.prog w = .ok 12 w := Jh zE
 have hz1 : ¬ ((m : Int) = 0) := by omega
 have hz2 : ¬ ((i : Int) = (n : Int)) := by omega
 have hz3 : ¬ ((c : Int) < (n : Int) + (m : Int)) := by omega
 have hw0 : IntKind.i64.wrap ((n : Int) + (m : Int)) = (n : Int) + (m : Int) := by rw [IntKind.wrap_i64]; omega
 have hw1 : IntKind.i64.wrap ((i : Int) + (m : Int)) = (i : Int) + (m : Int) := by rw [IntKind.wrap_i64]; omega
 have hb0 : (0 : Int) <= (n : Int) + (m : Int) := by omega
 have hb1 : (0 : Int) <= (i : Int) + (m : Int) := by omega
 have hin : i <= n := by omega
 have htn0 : ((n : Int) + (m : Int)).toNat = n + m := by omega
 have htn : ((i : Int) + (m : Int)).toNat = i + m := by omega
 have hb2 : ¬ (c = i + m) := by omega
 have hb3 : (i : Int) <= (n : Int) + (m : Int) := by omega
 have hb4 : ¬ (c = i) := by omega
 have hb5 : (n : Int) + (m : Int) <= (c : Int) := by omega
 go_enter Tryz.func179, Tryz.ntmps179
 go_wp2_with (simp only [hov])
 go_region_law_o (refine Qex rfl _ _ 34 34 rfl _ _ (by simp [Act.eval, Act.put]) (by simp [Act.eval, Act.put]) (hcp1 _ _ _) ?_)
 go_wp2_with (at_builtin; refine Qc9 _ rfl _ _ 34 34 rfl _ _ rfl rfl (hcp2 _ _) ?_)
 go_ret
 exact ⟨rfl, rfl⟩
set_option maxHeartbeats 4000000 in
theorem Qy8 
 (w : World) (base : Option Addr) (n c m : Nat) (v : Value) (hm : 0 < m) (hv : ∀ w, (Builtin.lenOf v).run Tryz.prog w = .ok m w) (hsl : ∃ a k, v = .slice a m k) (hn63 : n + m <= 35184372088832) (hnc : n <= c) (hbase : base = none -> c = 0) (v1 : Value)
 (w1 : World) (hap : ∀ ty, (Builtin.append_ #[34, 34] ty #[.slice base n c, v]).run Tryz.prog w = .ok v1 w1) :
 Calls Tryz.prog 179 #[.slice base n c, .int .i64 n, v] w fun e w' => e = .returned v1 /\ w' = w1 := by
 have mixed := Tryz.checked.mixed
 have r34 := Qm (P := Tryz.prog) uS; have r3 := Qm (P := Tryz.prog) uI; have r4 := Qm (P := Tryz.prog) uB
 have z129 : ∀ w, (Go.sizeOf 75).run Tryz.prog w = .ok 12 w := Jh zE
 obtain ⟨va, vk, rfl⟩ := hsl
 have hz1 : ¬ ((m : Int) = 0) := by omega
 have hin : n <= c := hnc
 have hnc' : (n : Int) <= (c : Int) := by omega
 go_enter Tryz.func179, Tryz.ntmps179
 cases base with
 | none =>
   have h0 := hbase rfl
   have hn0 : n = 0 := by omega
   subst h0
   subst hn0
   go_wp2_with (at_builtin; refine Lib.wpList_append_run _ rfl _ _ _ _ rfl _ _ rfl rfl _ _ (hap _) ?_)
   go_ret
   exact ⟨rfl, rfl⟩
 | some a =>
   go_wp2_with (at_builtin; refine Lib.wpList_append_run _ rfl _ _ _ _ rfl _ _ rfl rfl _ _ (hap _) ?_)
   all_goals (go_ret; exact ⟨rfl, rfl⟩)
set_option maxHeartbeats 4000000 in
theorem Q5h 
 (w : World) (b N n c i m G vb voff vc : Nat) (hm : 0 < m) (hi : i < n) (hnc : n <= c) (hroom : c < n + m) (hG : n + m <= G) (hn63 : n + m <= 35184372088832)
 (w1 w2 w3 : World) (hap : ∀ ty, (Builtin.append_ #[34, 3] ty #[.slice (some ⟨b, 0, none⟩) i c, .int .i64 ((n : Int) + (m : Int) - (i : Int))]).run Tryz.prog w = .ok (.slice (some ⟨N, 0, none⟩) (n + m) G) w1)
 (hcp1 : ∀ ty dc, (Builtin.copy_ #[34, 34] ty #[.slice (some ⟨N, i * 12, none⟩) (n + m - i) dc, .slice (some ⟨vb, voff, none⟩) m vc]).run Tryz.prog w1 = .ok (goInt m) w2)
 (hcp2 : ∀ ty dc sc, (Builtin.copy_ #[34, 34] ty #[.slice (some ⟨N, (i + m) * 12, none⟩) (n + m - (i + m)) dc, .slice (some ⟨b, i * 12, none⟩) (n - i) sc]).run Tryz.prog w2.drew = .ok (goInt ((n - i : Nat) : Int)) w3) :
 Calls Tryz.prog 179 #[.slice (some ⟨b, 0, none⟩) n c, .int .i64 i, .slice (some ⟨vb, voff, none⟩) m vc] w fun e w' => e = .returned (.slice (some ⟨N, 0, none⟩) (n + m) G) /\ w' = w3 := by
 have mixed := Tryz.checked.mixed
 have r34 := Qm (P := Tryz.prog) uS; have r3 := Qm (P := Tryz.prog) uI; have r4 := Qm (P := Tryz.prog) uB
 have z129 : ∀ w, (Go.sizeOf 75).run Tryz.prog w = .ok 12 w := Jh zE
 have hz1 : ¬ ((m : Int) = 0) := by omega
 have hz2 : ¬ ((i : Int) = (n : Int)) := by omega
 have hz3 : (c : Int) < (n : Int) + (m : Int) := by omega
 have hw0 : IntKind.i64.wrap ((n : Int) + (m : Int)) = (n : Int) + (m : Int) := by rw [IntKind.wrap_i64]; omega
 have hw1 : IntKind.i64.wrap ((i : Int) + (m : Int)) = (i : Int) + (m : Int) := by rw [IntKind.wrap_i64]; omega
 have hw2 : IntKind.i64.wrap ((n : Int) + (m : Int) - (i : Int)) = (n : Int) + (m : Int) - (i : Int) := by rw [IntKind.wrap_i64]; omega
 have hb0 : (0 : Int) <= (n : Int) + (m : Int) := by omega
 have hb1 : (0 : Int) <= (i : Int) + (m : Int) := by omega
 have hin : i <= n := by omega
 have hic : i <= c := by omega
 have htn0 : ((n : Int) + (m : Int)).toNat = n + m := by omega
 have htn : ((i : Int) + (m : Int)).toNat = i + m := by omega
 have hGi : ¬ (G = i) := by omega
 have hGim : ¬ (G = i + m) := by omega
 have hci : ¬ (c = i) := by omega
 have hb3 : (i : Int) <= (n : Int) := by omega
 have hb5 : (i : Int) + (m : Int) <= (n : Int) + (m : Int) := by omega
 have hb6 : (i : Int) <= (n : Int) + (m : Int) := by omega
 have hb7 : (i : Int) <= (c : Int) := by omega
 have hb8 : (n : Int) <= (c : Int) := by omega
 go_enter Tryz.func179, Tryz.ntmps179
 go_wp2_with (first
  | (at_builtin; refine Lib.wpList_append_run _ rfl _ _ _ _ rfl _ _ rfl rfl _ _ (hap _) ?_)
  | (at_builtin; refine Qc9 _ rfl _ _ 34 34 rfl _ _ rfl rfl (hcp1 _ _) ?_))
 go_region_law_o (refine Qex rfl _ _ 34 34 rfl _ _ (by simp [Act.eval, Act.put]) (by simp [Act.eval, Act.put]) (hcp2 _ _ _) ?_)
 go_wp2
 go_ret
 exact ⟨rfl, rfl⟩
theorem Qlg {w : World} {b2 o2 c2 : Nat} {cur2 : Array Value} {T2 : TypeId} {us rest2 : List Value} (hb2 : w.heap[b2]? = some (.cells cur2 T2 (0, 0))) (hc2 : cur2.toList = us ++ rest2) (hol : o2 + 12 <= us.length) (w' : World) (hw : w'.heap[b2]? = w.heap[b2]?) :
 (Builtin.firstCells 12 1 (.slice (some ⟨b2, o2, none⟩) 1 c2)).run Tryz.prog w' = .ok ⟨(us.drop o2).take 12⟩ w' := by
 have h1 := (Qdl hw (Qyk hb2 hc2)).take o2 12
 rw [Zj3] at h1
 have := Zp (P := Tryz.prog) (esz := 12) (k := 1) (n := 1) (cap := c2) h1 (by simp only [Zl6, Zly]; omega) (Zjw _) 1
 rw [this, Nat.one_mul, List.take_take, Nat.min_self]
theorem Q4m : Qr0 Tryz.prog 179 12 96 where
 body := ⟨_, _, Tryz.func179, rfl⟩
 num := fun F hF => by rw [Tryz.func179] at hF; cases hF; rfl
 room := fun w b len c i cur T vs rest b2 o2 c2 cur2 T2 us rest2 hb hcur hvl hb2 hcur2 hol hbb hi hfit hcsz h1v h1u hroomy => by
  have hle := (Xw hroomy).2
  have hnew1 : ∀ v ∈ (us.drop o2).take 12, v.oneCell' = true := fun v hv => h1u v (Zl2 (Zkv hv))
  have hnl : ((us.drop o2).take 12).length = 12 := by simp only [Zl6, Zly]; omega
  have hcs : cur.size = vs.length + rest.length := by
   have := congrArg List.length hcur
   simpa using this
  rcases Zjt i len with hlt | hge
  . have hov : ∀ lb cb, (callFunc 282 #[.slice (some ⟨b2, o2, none⟩) 1 c2, .slice (some ⟨b, (i + 1) * 12, none⟩) lb cb]).run Tryz.prog w = .ok (.value (.bool false)) w := fun lb cb => by
     rw [run_callFunc_extern Tryz.func282 (by kernel_rfl) (by kernel_rfl) (by kernel_rfl) (e := Extern.SlicesOverlaps.overlaps Tryz.f282.params Tryz.f282.resultTypes) (by kernel_rfl)]
     have := Lib.run_overlaps_apart (P := Tryz.prog) w 34 4 75 uS 12 (Jh zE) ⟨b2, o2, none⟩ ⟨b, (i + 1) * 12, none⟩ 1 c2 lb cb (fun e => hbb e.symm) T2 T cur2.size cur.size
      (by simp [World.shape?, hb2]) (by simp [World.shape?, hb]) (by omega) (by simp [World.frozen?, hb2]) (by simp [World.frozen?, hb2])
     change ((Extern.SlicesOverlaps.overlaps #[34, 34] #[4] _).run _ _).andThen _ = _
     rw [this]; rfl
    have hLv := Qyk hb hcur
    have htl : (vs.drop (i * 12)).length = (len - i) * 12 := by rw [Zly, hvl, Nat.sub_mul]
    have hsrc1 : ∀ sc, (Builtin.firstCells 12 (len - i) (.slice (some ⟨b, i * 12, none⟩) (len + 1 - i) sc)).run Tryz.prog w.drew = .ok ⟨vs.drop (i * 12)⟩ w.drew := fun sc => by
     have h1 := (Qdl (w' := w.drew) rfl hLv).take (i * 12) ((len - i) * 12)
     rw [Zj3, <- htl, Zlz] at h1
     have := Zp (P := Tryz.prog) (esz := 12) (k := len - i) (n := len - i) (cap := sc) h1 htl (Zjw _) (len + 1 - i)
     rw [this, <- htl, Zlz]
    have hcp1 : ∀ ty dc sc, (Builtin.copy_ #[34, 34] ty #[.slice (some ⟨b, (i + 1) * 12, none⟩) (len + 1 - (i + 1)) dc, .slice (some ⟨b, i * 12, none⟩) (len + 1 - i) sc]).run Tryz.prog w.drew = .ok (goInt ((len - i : Nat) : Int)) (w.drew.setRow b ⟨splice cur.toList ((i + 1) * 12) (vs.drop (i * 12))⟩) := fun ty dc sc =>
     Qf8 (t := 34) (ts := #[34, 34]) rfl uS zE (w := w.drew) hb (fun _ => rfl) (by simp only [Nat.min_def]; split <;> omega) (hsrc1 sc) (by rw [htl]; omega) (fun v hv => h1v v (Zl2 hv))
    have hb' : (w.drew.setRow b ⟨splice cur.toList ((i + 1) * 12) (vs.drop (i * 12))⟩).heap[b]? = some (.cells ⟨splice cur.toList ((i + 1) * 12) (vs.drop (i * 12))⟩ T (0, 0)) := setRow_heap w.drew b cur _ T (0, 0) hb
    have hsl : (splice cur.toList ((i + 1) * 12) (vs.drop (i * 12))).length = cur.size := by
     rw [Yf _ _ _ (by rw [htl, Zk6]; omega), Zk6]
    have hcp2 : ∀ ty dc, (Builtin.copy_ #[34, 34] ty #[.slice (some ⟨b, i * 12, none⟩) (len + 1 - i) dc, .slice (some ⟨b2, o2, none⟩) 1 c2]).run Tryz.prog (w.drew.setRow b ⟨splice cur.toList ((i + 1) * 12) (vs.drop (i * 12))⟩) =
     .ok (goInt (1 : Nat)) ((w.drew.setRow b ⟨splice cur.toList ((i + 1) * 12) (vs.drop (i * 12))⟩).setRow b ⟨splice (splice cur.toList ((i + 1) * 12) (vs.drop (i * 12))) (i * 12) ((us.drop o2).take 12)⟩) := fun ty dc =>
     Qf8 (t := 34) (ts := #[34, 34]) rfl uS zE hb' (fun _ => rfl) (by simp only [Nat.min_def]; split <;> omega)
      (Qlg hb2 hcur2 hol _ (by rw [setRow_other _ _ _ _ (fun e => hbb e.symm)]; rfl)) (by rw [hnl]; show i * 12 + 12 <= (splice cur.toList ((i + 1) * 12) (vs.drop (i * 12))).length; rw [hsl]; omega) hnew1
    refine (Q4w w b len c i 1 b2 o2 c2 (by omega) hlt hfit hle hov _ _ hcp1 hcp2).mono ?_
    rintro e w' ⟨rfl, rfl⟩
    refine ⟨rfl, w.drawn + 1, ?_⟩
    rw [setRow_setRow, hcur, show (i + 1) * 12 = i * 12 + 12 by omega, Qph vs rest _ (i * 12) 12 (by omega) hnl (by omega)]
    rfl
  . have hie : i = len := by omega
    subst hie
    have hap : ∀ ty, (Builtin.append_ #[34, 34] ty #[.slice (some ⟨b, 0, none⟩) i c, .slice (some ⟨b2, o2, none⟩) 1 c2]).run Tryz.prog w = .ok (.slice (some ⟨b, 0, none⟩) (i + 1) c) (w.setRow b ⟨splice cur.toList (0 + i * 12) ((us.drop o2).take 12)⟩) := fun ty =>
     AM.run_append_room (t := 34) (t2 := 34) (ts := #[34, 34]) rfl rfl uS zE byE (.other _ 1 _ _ uS (fun k e => by cases e) (fun _ => rfl) (fun w' hw => Qlg hb2 hcur2 hol w' (by rw [hw]))) hfit hb (by rw [hnl]; omega) hnew1
    refine (Qy8 w (some ⟨b, 0, none⟩) i c 1 _ (by omega) (fun _ => rfl) ⟨_, _, rfl⟩ hle (by omega) (fun h => by cases h) _ _ hap).mono ?_
    rintro e w' ⟨rfl, rfl⟩
    refine ⟨rfl, w.drawn, ?_⟩
    have e1 : splice cur.toList (0 + i * 12) ((us.drop o2).take 12) = (vs.take (i * 12) ++ (us.drop o2).take 12 ++ vs.drop (i * 12)) ++ rest.drop 12 := by
     have h2 : vs.take (i * 12) = vs := Zmg (by omega)
     have h3 : vs.drop (i * 12) = [] := List.drop_of_length_le (by omega)
     rw [h2, h3, hcur, Zj3, Qra vs rest _ _ (by omega), hnl, Zk5]
    rw [e1]
    rfl
 grow := fun w base len c i vs b2 o2 c2 cur2 T2 us rest2 hnil hlies hvl hb2 hcur2 hol hi hc h1v h1u hroomy => by
  subst hc
  have hle := (Xw hroomy).2
  have hnew1 : ∀ v ∈ (us.drop o2).take 12, v.oneCell' = true := fun v hv => h1u v (Zl2 (Zkv hv))
  have hnl : ((us.drop o2).take 12).length = 12 := by simp only [Zl6, Zly]; omega
  obtain ⟨zv, hzv, hzs⟩ : ∃ zv, zer Tryz.prog 75 = some zv /\ zv.cells.size = 12 := by
   have := zcE
   cases hq : zer Tryz.prog 75 with
   | none => rw [hq] at this; cases this
   | some z => rw [hq] at this; exact ⟨z, rfl, by simpa using this⟩
  have hzl : ∀ k, (zerosN zv.cells.toList k).length = k * 12 := fun k => by rw [Z8, Zk6, hzs]
  have hb2s : b2 < w.heap.size := (Zj0.1 hb2).1
  rcases Zjt i c with hlt | hge
  . cases base with
    | none => exact absurd (hnil rfl).1 (by omega)
    | some a =>
      obtain ⟨ab, ao, asp⟩ := a
      obtain ⟨h1, h2, hL⟩ := hlies _ rfl
      simp only at h1 h2 hL
      subst h1
      subst h2
      have habs : ab < w.heap.size := block_lt_of_cell (hL 0 _ (Zjr (by omega)))
      have hold : ∀ w' : World, w'.heap = w.heap -> (Builtin.firstCells 12 i (.slice (some ⟨ab, 0, none⟩) i c)).run Tryz.prog w' = .ok ⟨vs.take (i * 12)⟩ w' := fun w' hw => by
       have h1 := (Qdl (w' := w') (by rw [hw]) hL)
       exact Zp (P := Tryz.prog) (esz := 12) (k := i) (n := c) (cap := c) h1 hvl hi i
      have hk : ((c : Int) + ((1 : Nat) : Int) - (i : Int)) = ((c + 1 - i : Nat) : Int) := by omega
      have htot : i + (c + 1 - i) = c + 1 := by omega
      have hgrow := fun ty => AM.run_append_grow (P := Tryz.prog) (w := w) (ty := ty) (ts := #[34, 3]) (t := 34) (t2 := 3) rfl rfl uS zE byE hzv (base := some ⟨ab, 0, none⟩) (sLen := i) (sCap := c) rfl
       (.zeros ((c + 1 - i : Nat) : Int) .i64 zv uI (by omega) (by
         rw [Zl1]
         unfold Yw at hroomy ⊢
         have h96 : (c + 1 - i) * 96 <= (c + 1) * 96 := Zlw _ (by omega)
         simp only [Zki, decide_eq_true_eq] at hroomy ⊢
         omega) hzv hzs) hold (by rw [Zl1]; omega) (by rw [Zl1, htot]; exact hroomy)
      obtain ⟨G, hG, hap0⟩ := hgrow 0
      simp only [Zl1, htot] at hG hap0
      obtain ⟨row0, hrow0⟩ : ∃ row0, row0 = vs.take (i * 12) ++ zerosN zv.cells.toList (c + 1 - i) ++ zerosN zv.cells.toList (G - (c + 1)) := ⟨_, rfl⟩
      rw [<- hrow0] at hap0
      have hap : ∀ ty, (Builtin.append_ #[34, 3] ty #[.slice (some ⟨ab, 0, none⟩) i c, .int .i64 ((c : Int) + ((1 : Nat) : Int) - (i : Int))]).run Tryz.prog w = .ok (.slice (some ⟨w.heap.size, 0, none⟩) (c + 1) G) { w with heap := w.heap.push (.cells ⟨row0⟩ 75), drawn := w.drawn + 1 } := fun ty => by
       rw [hk]; exact hap0
      obtain ⟨w1, hw1⟩ : ∃ w1 : World, w1 = { w with heap := w.heap.push (.cells ⟨row0⟩ 75), drawn := w.drawn + 1 } := ⟨_, rfl⟩
      rw [<- hw1] at hap
      have hN : w1.heap[w.heap.size]? = some (.cells ⟨row0⟩ 75 (0, 0)) := by rw [hw1]; simp
      have hO : ∀ k, k < w.heap.size -> w1.heap[k]? = w.heap[k]? := fun k hk => by
       rw [hw1]; simp only [Array.getElem?_push, if_neg (show ¬ k = w.heap.size by omega)]
      have hr0l : row0.length = G * 12 := by
       rw [hrow0]; simp only [Zky, hzl, Zl6]; omega
      have htl : (vs.drop (i * 12)).length = (c - i) * 12 := by rw [Zly, hvl, Nat.sub_mul]
      have hcp1 : ∀ ty dc, (Builtin.copy_ #[34, 34] ty #[.slice (some ⟨w.heap.size, i * 12, none⟩) (c + 1 - i) dc, .slice (some ⟨b2, o2, none⟩) 1 c2]).run Tryz.prog w1 = .ok (goInt (1 : Nat)) (w1.setRow w.heap.size ⟨splice row0 (i * 12) ((us.drop o2).take 12)⟩) := fun ty dc =>
       Qf8 (t := 34) (ts := #[34, 34]) rfl uS zE hN (fun _ => rfl) (by simp only [Nat.min_def]; split <;> omega) (Qlg hb2 hcur2 hol _ (hO _ hb2s)) (by rw [hnl]; show i * 12 + 12 <= row0.length; rw [hr0l]; omega) hnew1
      obtain ⟨w2, hw2⟩ : ∃ w2 : World, w2 = w1.setRow w.heap.size ⟨splice row0 (i * 12) ((us.drop o2).take 12)⟩ := ⟨_, rfl⟩
      rw [<- hw2] at hcp1
      have hs1 : (splice row0 (i * 12) ((us.drop o2).take 12)).length = G * 12 := by
       rw [Yf _ _ _ (by rw [hnl, hr0l]; omega), hr0l]
      have hN2 : w2.drew.heap[w.heap.size]? = some (.cells ⟨splice row0 (i * 12) ((us.drop o2).take 12)⟩ 75 (0, 0)) := by
       rw [hw2]; exact setRow_heap w1 w.heap.size _ _ _ (0, 0) hN
      have hsrc2 : ∀ sc, (Builtin.firstCells 12 (c - i) (.slice (some ⟨ab, i * 12, none⟩) (c - i) sc)).run Tryz.prog w2.drew = .ok ⟨vs.drop (i * 12)⟩ w2.drew := fun sc => by
       have hh : w2.drew.heap[ab]? = w.heap[ab]? := by
        rw [hw2]
        change (w1.setRow w.heap.size _).heap[ab]? = _
        rw [setRow_other _ _ _ _ (by omega), hO _ habs]
       have h1 := (Qdl hh hL).take (i * 12) ((c - i) * 12)
       rw [Zj3, <- htl, Zlz] at h1
       have := Zp (P := Tryz.prog) (esz := 12) (k := c - i) (n := c - i) (cap := sc) h1 htl (Zjw _) (c - i)
       rw [this, <- htl, Zlz]
      have hcp2 : ∀ ty dc sc, (Builtin.copy_ #[34, 34] ty #[.slice (some ⟨w.heap.size, (i + 1) * 12, none⟩) (c + 1 - (i + 1)) dc, .slice (some ⟨ab, i * 12, none⟩) (c - i) sc]).run Tryz.prog w2.drew =
       .ok (goInt ((c - i : Nat) : Int)) (w2.drew.setRow w.heap.size ⟨splice (splice row0 (i * 12) ((us.drop o2).take 12)) ((i + 1) * 12) (vs.drop (i * 12))⟩) := fun ty dc sc =>
       Qf8 (t := 34) (ts := #[34, 34]) rfl uS zE hN2 (fun _ => rfl) (by simp only [Nat.min_def]; split <;> omega) (hsrc2 sc) (by rw [htl]; show (i + 1) * 12 + (c - i) * 12 <= (splice row0 (i * 12) ((us.drop o2).take 12)).length; rw [hs1]; omega) (fun v hv => h1v v (Zl2 hv))
      refine (Q5h w ab w.heap.size c c i 1 G b2 o2 c2 (by omega) hlt (Zjw _) (by omega) hG hle w1 w2 _ hap hcp1 hcp2).mono ?_
      rintro e w' ⟨rfl, rfl⟩
      refine ⟨G, w.drawn + 2, 75, zerosN zv.cells.toList (G - (c + 1)), hG, hzl _, rfl, ?_⟩
      have e1 : splice (splice row0 (i * 12) ((us.drop o2).take 12)) ((i + 1) * 12) (vs.drop (i * 12)) = (vs.take (i * 12) ++ (us.drop o2).take 12 ++ vs.drop (i * 12)) ++ zerosN zv.cells.toList (G - (c + 1)) := by
       rw [hrow0, show (i + 1) * 12 = i * 12 + 12 by omega]
       exact Qo5 _ _ _ _ _ (i * 12) 12 (by rw [Zl6]; omega) hnl (by rw [hzl, htl]; omega)
      rw [e1, hw2, hw1]
      change ((({ w with heap := w.heap.push (.cells ⟨row0⟩ 75), drawn := w.drawn + 2 } : World).setRow w.heap.size _).setRow w.heap.size _) = _
      rw [setRow_setRow]
      exact Quy { w with drawn := w.drawn + 2 } ⟨row0⟩ _ 75 w.heap
  . have hie : i = c := by omega
    subst hie
    have hold : ∀ w' : World, w'.heap = w.heap -> (Builtin.firstCells 12 i (.slice base i i)).run Tryz.prog w' = .ok ⟨vs⟩ w' := fun w' hw => by
     cases base with
     | none =>
       obtain ⟨h0, _⟩ := hnil rfl
       subst h0
       have : vs = [] := Zl4 (by omega)
       subst this
       simp [Builtin.firstCells]
     | some a =>
       obtain ⟨ab, ao, asp⟩ := a
       obtain ⟨h1, h2, hL⟩ := hlies _ rfl
       simp only at h1 h2 hL
       subst h1
       subst h2
       have := Zp (P := Tryz.prog) (esz := 12) (k := i) (n := i) (cap := i) (Qdl (w' := w') (by rw [hw]) hL) hvl (Zjw _) i
       rw [this, <- hvl, Zlz]
    have hgrow := fun ty => AM.run_append_grow (P := Tryz.prog) (w := w) (ty := ty) (ts := #[34, 34]) (t := 34) (t2 := 34) rfl rfl uS zE byE hzv (base := base) (sLen := i) (sCap := i) (m := 1) (x := .slice (some ⟨b2, o2, none⟩) 1 c2) rfl
     (.other _ 1 _ _ uS (fun k e => by cases e) (fun _ => rfl) (fun w' hw => Qlg hb2 hcur2 hol w' (by rw [hw]))) hold (by omega) hroomy
    obtain ⟨G, hG, hap0⟩ := hgrow 0
    refine (Qy8 w base i i 1 _ (by omega) (fun _ => rfl) ⟨_, _, rfl⟩ hle (Zjw _) (fun h => (hnil h).2) _ _ (fun ty => hap0)).mono ?_
    rintro e w' ⟨rfl, rfl⟩
    refine ⟨G, w.drawn + 1, 75, zerosN zv.cells.toList (G - (i + 1)), hG, hzl _, rfl, ?_⟩
    have h2 : vs.take (i * 12) = vs := Zmg (by omega)
    have h3 : vs.drop (i * 12) = [] := List.drop_of_length_le (by omega)
    rw [h2, h3, Zk5]
end Go.Proofs.YtgnnlchhfiomgaaGreatDoor
end
