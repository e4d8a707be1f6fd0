/- This file holds in one the texts DK, DL, DK2, DK5, EP, DK3, DK4, DZ0, Bx37, Jf; each says at its head what it proves. -/
import Derived.Test.YteagpfbdmiihaaaGreatDoorT13
import Derived.Test.YteagpfbdmiihaaaGreatDoorT22
import Derived.Test.YteagpfbdmiihaaaGreatDoorT24
import Derived.Test.YteagpfbdmiihaaaGreatDoorT26
import Derived.Test.YteagpfbdmiihaaaGreatDoorT27
import Derived.OwnWalk
import Derived.WalkKit
import Derived.Shelf.RegionOpenPlain
import Derived.Lib.Overlaps
import Derived.Laws.Externs
import Derived.JoinedOf
set_option linter.unusedSimpArgs false
set_option linter.unusedVariables false
section
namespace Go.AM.BM
def isNumB : V -> Bool
 | .int _ _ => true
 | _ => false
def Qyt (v : V) : Bool := match v with
 | .iS c n _ => Nat.beq n 256 && (Nat.beq c.length 256 && c.all isNumB)
 | _ => false
def Qo6 : V -> List V
 | .iS c _ _ => c
 | _ => []
def Qcy : List V -> Bool
 | [] => true
 | .int .i64 a :: v :: r => decide (0 <= a) && decide (a < 256) && Qyt v && Qcy r
 | _ => false
def Qh4 : V -> Option (List V × Nat)
 | .nS => some ([], 0)
 | .iS cs n _ => if Nat.beq cs.length (n * 2) && Nat.ble n 4096 && Qcy cs then some (cs, n) else none
 | _ => none
def Qio : V -> Option (List V)
 | .iS rv n _ => if Nat.beq n 256 && Nat.beq rv.length 256 && rv.all Qyt then some rv else none
 | _ => none
def newRow (fl : Bool) (v : V) : V := .iS (Qo6 v) 256 fl
def Qde : List V -> List V
 | a :: v :: r => a :: newRow false v :: Qde r
 | l => l
def Qq2 (rv cs : List V) (n : Nat) : V := .agg [.iS (rv.map (newRow true)) 256 false, if n = 0 then .nS else .iS (Qde cs) n false]
def Qzk : List V -> Option V
 | [.agg [bv, wv]] => (match Qio bv, Qh4 wv with
   | some rv, some (cs, n) => some (Qq2 rv cs n)
   | _, _ => none)
 | _ => none
def Qeh : List V -> List V -> List V
 | .int _ a :: v :: r, rv => Qeh r (rv.set a.toNat v)
 | _, rv => rv
def isFn : V -> Bool
 | .func (.func _) [] [] => true
 | .func (.func _) [] [.iptr _ _] => true
 | .func (.func _) [] [.bad] => true
 | _ => false
def isAll (all : FuncId) : V -> Bool
 | .func (.func f) [] [] => Nat.beq f all
 | _ => false
def Qzt (all : FuncId) : List V -> Option V
 | [.agg [bv, wv], sv] => if isFn sv then (match Qio bv, Qh4 wv with
   | some rv, some (cs, n) => if isAll all sv || Nat.beq n 0 then some (Qq2 (Qeh cs rv) [] 0) else none
   | _, _ => none) else none
 | _ => none
def Ql0 : List V -> Option V
 | [.agg [.nS, .nS]] => some (.int .i64 8)
 | [.agg [bv, wv]] => (match Qio bv, Qh4 wv with
   | some _, some _ => some (.int .i64 0)
   | _, _ => none)
 | _ => none
def Q7o : List V := List.replicate 256 (.int .u8 0)
def kNew : List V -> Option V
 | [] => some (.agg [.iS (List.replicate 256 (.iS Q7o 256 true)) 256 false, .nS])
 | _ => none
/-! ### Sums -/
structure W4 where
 a : Nat
 b : Nat
 c : Nat
 d : Nat
noncomputable def Qb0 (x y : Nat) : Nat := Nat.mod (Nat.add x y) (nat_lit 4294967296)
noncomputable def Qf8 (x k : Nat) : Nat := Nat.lor (Nat.mod (Nat.shiftLeft x k) (nat_lit 4294967296)) (Nat.shiftRight x (Nat.sub (nat_lit 32) k))
noncomputable def Qcr {α : Type} (x : Nat) (k : Nat -> α) : α := Nat.rec (motive := fun _ => α) (k (nat_lit 0)) (fun m _ => k (Nat.succ m)) x
noncomputable def Qf9 (far near : Nat) (x : W4) : W4 :=
 Qcr (Qb0 x.a x.b) fun a => Qcr (Qf8 (Nat.xor x.d a) far) fun d => Qcr (Qb0 x.c d) fun c => Qcr (Qf8 (Nat.xor x.b c) near) fun b => ⟨a, b, c, d⟩
noncomputable def Qgr (x : W4) : W4 := Qf9 (nat_lit 9) (nat_lit 6) (Qf9 (nat_lit 15) (nat_lit 11) x)
noncomputable def K0 (n : Nat) : W4 -> W4 := Nat.rec (motive := fun _ => W4 -> W4) (fun x => x) (fun _ ih x => ih (Qgr x)) n
noncomputable def Qxw (v : V) : Nat := vInt v (fun _ m => Int.rec (motive := fun _ => Nat) (fun a => a) (fun _ => nat_lit 0) m) (nat_lit 0)
noncomputable def num4 (w x y z : V) : Nat := Nat.add (Qxw w) (Nat.mul (nat_lit 256) (Nat.add (Qxw x) (Nat.mul (nat_lit 256) (Nat.add (Qxw y) (Nat.mul (nat_lit 256) (Qxw z))))))
noncomputable def Qii (n : Nat) : List V -> W4 -> W4 := Nat.rec (motive := fun _ => List V -> W4 -> W4) (fun _ x => x) (fun _ ih l x => match l with
 | a :: b :: c :: d :: e :: f :: g :: h :: r => Qcr (Nat.xor x.a (num4 a b c d)) fun p => Qcr (Nat.xor x.c (num4 e f g h)) fun q => ih r (K0 (nat_lit 4) ⟨p, x.b, q, x.d⟩)
 | _ => x) n
noncomputable def pad8 (l : List V) : List V := l ++ .int .u8 1 :: List.replicate ((8 - (l.length + 1) % 8) % 8) (.int .u8 0)
noncomputable def Qk2 (l : List V) : W4 := match Qii (l.length + 1) (pad8 l) ⟨1, 2, 3, 4⟩ with
 | x => K0 (nat_lit 8) ⟨x.a, Nat.xor x.b l.length, x.c, x.d⟩
def Qlk : V -> Bool
 | .int .u8 (.ofNat n) => Nat.blt n 256
 | _ => false
def Qid : V -> Option (List V)
 | .nS => some []
 | .iS c n _ => if Nat.beq c.length n && (Nat.ble n 1048576 && c.all Qlk) then some c else none
 | _ => none
noncomputable def kSum : List V -> Option V
 | [x] => (match Qid x with
   | some l => some (.int .u32 (Int.ofNat (Qk2 l).a))
   | none => none)
 | _ => none
noncomputable def maxV (l : List V) : Nat -> Nat := List.rec (motive := fun _ => Nat -> Nat) (fun m => m) (fun v _ ih m => Bool.rec (motive := fun _ => Nat) (ih m) (ih (Qxw v)) (Nat.ble (Nat.succ m) (Qxw v))) l
noncomputable def kMax : List V -> Option V
 | [x] => (match Qid x with
   | some (v :: l) => some (.int .u8 (Int.ofNat (maxV l (Qxw v))))
   | _ => none)
 | _ => none
end Go.AM.BM
end
section
namespace Go.AM
def Qca (L : List (Int × V)) (c : List V) (b : Nat) : List V := match L[b]? with
 | some (k, v) => c.set k.toNat v
 | none => c
def Ja (L : List (Int × V)) (seen : List Nat) (rv : List V) : List V := seen.foldl (Qca L) rv
theorem Qua (L : List (Int × V)) (seen : List Nat) (b : Nat) (rv : List V) (k : Int) (v : V) (h : L[b]? = some (k, v)) : Ja L (seen ++ [b]) rv = (Ja L seen rv).set k.toNat v := by
 simp only [Ja, List.foldl_append, Zlt, List.foldl_nil, Qca, h]
theorem Qav (L : List (Int × V)) : ∀ (seen : List Nat) (rv : List V), (Ja L seen rv).length = rv.length
 | [], rv => rfl
 | b :: seen, rv => by
   show (Ja L seen (Qca L rv b)).length = _
   rw [Qav L seen]
   unfold Qca
   split
   . rw [Zne]
   . rfl
theorem Qa7 (L : List (Int × V)) (i : Nat) : ∀ (seen : List Nat) (rv : List V), (∀ b ∈ seen, ∀ k v, L[b]? = some (k, v) -> k.toNat ≠ i) -> (Ja L seen rv)[i]? = rv[i]?
 | [], rv, _ => rfl
 | b :: seen, rv, h => by
   show (Ja L seen (Qca L rv b))[i]? = _
   rw [Qa7 L i seen _ (fun c hc => h c (Zlk _ hc))]
   unfold Qca
   split
   . rename_i k v hk
     rw [Zm0, if_neg (h b (by simp) k v hk)]
   . rfl
theorem Qdx (L : List (Int × V)) (hd : ∀ (b c : Nat) (k : Int) (v w : V), L[b]? = some (k, v) -> L[c]? = some (k, w) -> b = c) (h0 : ∀ (b : Nat) (k : Int) (v : V), L[b]? = some (k, v) -> 0 <= k) {b : Nat} {k : Int} {v : V} (hL : L[b]? = some (k, v)) :
 ∀ (seen : List Nat) (rv : List V), b ∈ seen -> k.toNat < rv.length -> (Ja L seen rv)[k.toNat]? = some v
 | [], _, h, _ => by cases h
 | c :: seen, rv, h, hi => by
   show (Ja L seen (Qca L rv c))[k.toNat]? = _
   by_cases hs : b ∈ seen
   . refine Qdx L hd h0 hL seen _ hs ?_
     unfold Qca
     split
     . rw [Zne]; exact hi
     . exact hi
   . have hc : b = c := by
      rcases Zli.1 h with h | h
      . exact h
      . exact absurd h hs
     subst hc
     rw [Qa7 L]
     . simp only [Qca, hL]
       rw [Zm0, if_pos rfl, if_pos hi]
     . intro c hcs k' v' hk' e
       have : k' = k := by have := h0 _ _ _ hL; have := h0 _ _ _ hk'; omega
       subst this
       exact hs (hd _ _ _ _ _ hL hk' ▸ hcs)
theorem Qwr (L : List (Int × V)) (hd : ∀ (b c : Nat) (k : Int) (v w : V), L[b]? = some (k, v) -> L[c]? = some (k, w) -> b = c) (h0 : ∀ (b : Nat) (k : Int) (v : V), L[b]? = some (k, v) -> 0 <= k) (seen : List Nat) (hall : ∀ b, b < L.length -> b ∈ seen) (rv : List V) (hk : ∀ (b : Nat) (k : Int) (v : V), L[b]? = some (k, v) -> k.toNat < rv.length) :
 Ja L seen rv = Ja L (List.range L.length) rv := by
 apply Zme
 intro i
 by_cases h : ∃ (b : Nat) (k : Int) (v : V), L[b]? = some (k, v) /\ k.toNat = i
 . obtain ⟨b, k, v, hL, rfl⟩ := h
   have hb : b < L.length := (Zl7.1 hL).1
   rw [Qdx L hd h0 hL seen rv (hall b hb) (hk _ _ _ hL), Qdx L hd h0 hL _ rv (Zmr.2 hb) (hk _ _ _ hL)]
 . have hm : ∀ s : List Nat, ∀ b ∈ s, ∀ k v, L[b]? = some (k, v) -> k.toNat ≠ i := fun s b _ k v hL e => h ⟨b, k, v, hL, e⟩
   rw [Qa7 L i _ _ (hm _), Qa7 L i _ _ (hm _)]
theorem Qp2 (seen : List Nat) : ∀ (es : List (V × V)) (i : Nat) (x : (V × V) × Nat), x ∈ Yy seen es (List.range' i es.length) -> i <= x.2 /\ es[x.2 - i]? = some x.1 /\ x.2 ∉ seen
 | [], _, x, h => by cases h
 | e :: es, i, x, h => by
   simp only [Zld, Zle, Yy] at h
   have next : x ∈ Yy seen es (List.range' (i + 1) es.length) -> i <= x.2 /\ (e :: es)[x.2 - i]? = some x.1 /\ x.2 ∉ seen := by
    intro h
    obtain ⟨h1, h2, h3⟩ := Qp2 seen es (i + 1) x h
    refine ⟨by omega, ?_, h3⟩
    have e : x.2 - i = (x.2 - (i + 1)) + 1 := by omega
    rw [e]; exact h2
   split at h
   . exact next h
   . rename_i hc
     rcases Zli.1 h with rfl | h
     . exact ⟨Zk0 _, by simp, by simpa using hc⟩
     . exact next h
theorem Qqn (seen : List Nat) : ∀ (es : List (V × V)) (i : Nat), Yy seen es (List.range' i es.length) = [] -> ∀ b, i <= b -> b < i + es.length -> b ∈ seen
 | [], _, _, b, h1, h2 => by simp at h2; omega
 | e :: es, i, h, b, h1, h2 => by
   simp only [Zld, Zle, Yy] at h h2
   split at h
   . rename_i hc
     by_cases e : b = i
     . subst e; simpa using hc
     . exact Qqn seen es (i + 1) h b (by omega) (by omega)
   . cases h
theorem Qvk (seen : List Nat) (c : Nat) : ∀ (es : List (V × V)) (bs : List Nat), (Yy (seen ++ [c]) es bs).length <= (Yy seen es bs).length
 | [], bs => by cases bs <;> simp [Yy]
 | e :: es, [] => by simp [Yy]
 | e :: es, b :: bs => by
   have := Qvk seen c es bs
   simp only [Yy]
   split <;> split
   . exact this
   . simp only [Zld]; omega
   . rename_i h1 h2
     simp at h1 h2
     exact absurd h2 h1.1
   . simp only [Zld]; omega
theorem Qh9 (seen : List Nat) (x : (V × V) × Nat) : ∀ (es : List (V × V)) (bs : List Nat), x ∈ Yy seen es bs -> (Yy (seen ++ [x.2]) es bs).length < (Yy seen es bs).length
 | [], bs, h => by cases bs <;> simp [Yy] at h
 | e :: es, [], h => by simp [Yy] at h
 | e :: es, b :: bs, h => by
   have le := Qvk seen x.2 es bs
   simp only [Yy] at h ⊢
   by_cases hb : seen.contains b = true
   . have hb2 : (seen ++ [x.2]).contains b = true := by simp at hb ⊢; exact .inl hb
     simp only [hb, hb2, if_true] at h ⊢
     exact Qh9 seen x es bs h
   . simp only [hb, Zkz, if_false] at h ⊢
     rcases Zli.1 h with rfl | h
     . have : (seen ++ [b]).contains b = true := by simp
       simp only [this, if_true, Zld]
       simp only at le
       omega
     . have := Qh9 seen x es bs h
       split <;> simp only [Zld] <;> omega
theorem Qmr (b : Nat) : ∀ (es : List (V × V)) (i : Nat), i <= b -> Qbp b es (List.range' i es.length) = es[b - i]?
 | [], i, h => by simp [Qbp]
 | e :: es, i, h => by
   simp only [Zld, Zle, Qbp]
   split
   . rename_i q; subst q; simp
   . have q : b - i = (b - (i + 1)) + 1 := by omega
     rw [q, Qmr b es (i + 1) (by omega)]; rfl
end Go.AM
end
section
namespace Go.AM.BM
def slC : V -> Option (List V × Nat)
 | .nS => some ([], 0)
 | .iS c n _ => if Nat.beq c.length n && Nat.ble n 1048576 then some (c, n) else none
 | _ => none
def numC : List V -> Option Nat
 | [] => some 0
 | .int .u8 (.ofNat b) :: r => if Nat.blt b 256 then (match numC r with
   | some n => some (Nat.add b (Nat.mul 256 n))
   | none => none) else none
 | _ => none
def kGet : List V -> Option V
 | [x, .int .i64 (.ofNat a), .int .i64 (.ofNat k)] => (match slC x with
   | some (c, n) => if Nat.ble a 1048576 && Nat.ble k 1048576 then
      (if Nat.beq k 0 || (Nat.blt 4 k || Nat.blt n a) then some (.tuple [.int .i64 (.ofNat 0), .int .i64 (.ofNat 2)])
       else if Nat.blt n (Nat.add a k) then some (.tuple [.int .i64 (.ofNat 0), .int .i64 (.ofNat 8)])
       else (match numC ((c.drop a).take k) with
        | some m => some (.tuple [.int .i64 (.ofNat m), .int .i64 (.ofNat 0)])
        | none => none)) else none
   | none => none)
 | _ => none
def Qhk (n : Nat) : Nat -> List V
 | 0 => []
 | k + 1 => .int .u8 (.ofNat (Nat.mod n 256)) :: Qhk (Nat.div n 256) k
noncomputable def keyC (x : W4) : List V := Qhk x.a 4 ++ (Qhk x.b 4 ++ (Qhk x.c 4 ++ Qhk x.d 4))
noncomputable def kKey : List V -> Option V
 | [x] => (match Qid x with
   | some l => some (.iS (keyC (Qk2 l)) 16 false)
   | none => none)
 | _ => none
end Go.AM.BM
end
section
namespace Go.AM.BM
noncomputable def onS (lf pl n : Nat) (l : List V) : List V :=
 match Qk2 (l ++ [.int .u8 (.ofNat (Nat.mod lf (nat_lit 256))), .int .u8 (.ofNat (Nat.mod pl (nat_lit 256))), .int .u8 (.ofNat (Nat.mod n (nat_lit 256)))]) with
 | x => Qcr x.a fun p => Qcr x.b fun q => Qcr x.c fun r => Qcr x.d fun s => keyC ⟨p, q, r, s⟩
noncomputable def onI (lf pl a : Nat) (l : List V) (k : Nat) : List V := Nat.rec (motive := fun _ => List V) l (fun j ih => onS lf pl (Nat.add a j) ih) k
noncomputable def kOn : List V -> Option V
 | [.agg l, .agg [.int .i64 (.ofNat lf), .int .i64 (.ofNat pl)], .int .i64 (.ofNat a), .int .i64 (.ofNat b)] => (match Qid (.iS l 16 true) with
   | some c => bif Nat.ble b (nat_lit 1000000) then some (.agg (onI lf pl a c (Nat.sub b a))) else none
   | none => none)
 | _ => none
end Go.AM.BM
end
section
namespace Go.AM
structure Kl where
 at_ : Int
 birth : Int
 iv : Int
 tag : Int
 sum : Int
 deriving DecidableEq
def Kl.cells (p : Kl) : List V := [.int .i64 p.at_, .int .u32 p.birth, .int .u32 p.iv, .int .u32 p.tag, .int .u32 p.sum]
def Qec : Kl := ⟨0, 0, 0, 0, 0⟩
def Q5d (p : Kl) : Bool := decide (p.at_ < 12) || (decide (p.at_ >= 256) || (decide (p.birth < 1) || decide (p.birth > 16777215)))
def Qhe (p : Kl) : Bool := decide (p = Qec) || !Q5d p
def okE (b : Bool) : Int := if b then 0 else 8
def Qao (a b : Int) : Int := if decide (a < b) then -1 else if decide (a > b) then 1 else 0
def Qko : List Int -> Int
 | [] => 0
 | x :: r => if x != 0 then x else Qko r
def Qg7 (v : V) (n : Nat) : Prop := ∃ cells, Zq 1 v cells n
structure Jo where
 id : Int
 kind : Int
 owner : Int
 prev : Int
 txg : Int
 guid : Int
 key : Int
 root : Kl
 dead : List Kl
 deriving DecidableEq
def Qdh (l : List Kl) : List V := l.flatMap Kl.cells
def Xg (l : Jo) (dv : V) : List V := .int .i64 l.id :: .int .u8 l.kind :: .int .i64 l.owner :: .int .i64 l.prev :: .int .u32 l.txg :: .int .u32 l.guid :: .int .i64 l.key :: .int .i64 l.root.at_ :: .int .u32 l.root.birth :: .int .u32 l.root.iv :: .int .u32 l.root.tag :: .int .u32 l.root.sum :: [dv]
def Qd0 (v : V) (l : List Kl) : Prop := Zq 5 v (Qdh l) l.length
def LinesC : List V -> List Jo -> Prop
 | cs, [] => cs = []
 | cs, l :: ls => ∃ dv d, cs = Xg l dv ++ d /\ Qd0 dv l.dead /\ LinesC d ls
def Qgp (v : V) (ls : List Jo) : Prop := ∃ cs, LinesC cs ls /\ Zq 13 v cs ls.length
def Qgv (c : Nat -> Int) : Nat -> Nat -> Nat -> Nat
 | 0, i, _ => i
 | n + 1, i, j => if i < j then (if decide (c ((i + j) / 2) < 0) then Qgv c n ((i + j) / 2 + 1) j else Qgv c n i ((i + j) / 2)) else i
def bs (c : Nat -> Int) (n : Nat) : Nat := Qgv c n 0 n
def Qjx (c : Nat -> Int) (n : Nat) : Bool := decide (bs c n < n) && decide (c (bs c n) = 0)
def B9 (ls : List Jo) (id : Int) (i : Nat) : Int := match ls[i]? with
 | some l => Qao l.id id
 | none => 0
def Qc1 (ls : List Jo) (id : Int) : Option Nat := if Qjx (B9 ls id) ls.length then some (bs (B9 ls id) ls.length) else none
def Bw (ls : List Jo) (id : Int) : Option Jo := match Qc1 ls id with
 | some i => ls[i]?
 | none => none
def Qqc (ls : List Jo) (x : Jo) : Bool := match Bw ls x.owner with
 | none => false
 | some o => if (o.kind != 1) || ((x.kind == 1) && (x.owner != x.id)) then false else if x.prev == 0 then true else match Bw ls x.prev with
   | none => false
   | some p => if (p.kind != 2) || (p.key != x.key) then false else decide (p.txg < x.txg) || ((p.txg == x.txg) && (x.kind == 1))
def Qf0 : Option Kl -> List Kl -> Bool
 | _, [] => true
 | o, p :: r => if decide (p = Qec) || (!(Qhe p) || (match o with | some q => decide (Qao q.at_ p.at_ >= 0) | none => false)) then false else Qf0 (some p) r
def Qmp (l : List Kl) : Bool := if decide ((l.length : Int) > 240) then false else Qf0 none l
def before {α : Type} (l : List α) (i : Nat) : Option α := match i with | 0 => none | k + 1 => l[k]?
def Qek : Option Jo -> List Jo -> Bool
 | _, [] => true
 | o, x :: r => if decide (x.id < 1) || (decide (x.id > 255) || ((match o with | some q => decide (x.id <= q.id) | none => false) || ((x.kind != 1) && (x.kind != 2)))) then false else Qek (some x) r
def Qso (all : List Jo) (x : Jo) : Bool := decide (x.txg > 16777215) || (decide (x.key < 0) || (decide (x.key >= 8) || (!(Qhe x.root) || (!(Qmp x.dead) || !(Qqc all x)))))
def Qen (all : List Jo) : List Jo -> Bool
 | [] => true
 | x :: r => if Qso all x then false else Qen all r
def Qaa (ls : List Jo) : Bool := if decide ((ls.length : Int) > 16) then false else if Qek none ls then Qen ls ls else false
structure Jn where
 set : Int
 obj : Int
 index : Int
 kind : Int
 links : Int
 size : Int
 n : Nat
 laid : Kl
 deriving DecidableEq
def Ji (c : Jn) (dv : V) : List V := .int .i64 c.set :: .int .i64 c.obj :: .int .i64 c.index :: .int .u8 c.kind :: .int .i64 c.links :: .int .i64 c.size :: dv :: .int .i64 c.laid.at_ :: .int .u32 c.laid.birth :: .int .u32 c.laid.iv :: .int .u32 c.laid.tag :: [.int .u32 c.laid.sum]
def Qdn (c : Jn) : Bool :=
 if decide (c.obj < 0) || (decide (c.obj >= 16) || (decide (c.index < 0) || decide (c.index > 15))) then false
 else if c.index == 15 then
  (decide (c.kind <= 7) && (decide ((if c.size < c.links then c.size else c.links) >= 0) && (decide (c.links <= 255) && decide (c.size <= 3840)))) && (((c.n : Int) == 0) && (decide (c.laid = Qec) && (decide (c.kind > 0) || ((c.kind == 0) && ((c.links == 0) && (c.size == 0))))))
 else ((c.kind == 0) && ((c.links == 0) && (c.size == 0))) && ((((c.n : Int) == 0) || ((c.n : Int) == 256)) && Qhe c.laid)
def Qjg (a b : Jn) : Int := Qko [Qao a.set b.set, Qao a.obj b.obj, Qao a.index b.index]
def Ba (many : Int) (k : List UInt8) : Bool := decide ((k.length : Int) > 0) && (((k.length : Int) != many) || ((many == 24) && decide (k = List.replicate 24 0)))
def Qcv (l : List (List UInt8)) (many : Int) : Bool := ((l.length : Int) == 8) && !(l.any (Ba many))
def Qi2 : List V -> List (List UInt8) -> Prop
 | cs, [] => cs = []
 | cs, x :: r => ∃ v d, cs = v :: d /\ Q1 v x /\ Qi2 d r
def Qjd (v : V) (l : List (List UInt8)) : Prop := ∃ cs, Qi2 cs l /\ Zq 1 v cs l.length
def Yb {α : Type} (p : α -> Bool) : Nat -> List α -> Int
 | _, [] => -1
 | i, x :: r => if p x then (i : Int) else Yb p (i + 1) r
def Qah (l : List UInt8) : Bool := l.length == 256 && l.all (fun b => b <= 2) && ((l.take 12).count 1 == 12)
def Qet (space : List UInt8) (i : Nat) : Int := (((space.getD i 0).toNat : Nat) : Int)
def Qd5 (d : Int) (tab : Bool) (epoch count : Int) : Bool := !((d != 0) || (!tab || (decide (epoch < 1) || (decide (epoch > 65535) || decide (count > 65535)))))
def Yh (nid ng : Int) (x : Jo) : Bool := decide (x.id >= nid) || decide (x.guid >= ng)
structure Qkm where
 epoch : Int
 count : Int
 gen : Int
 root : Kl
 own : List Int
 lines : List Jo
 keys : List (List UInt8)
 loaded : List (List UInt8)
 changes : List Jn
 logged : Int
 nextId : Int
 nextGuid : Int
def ChangesC : List V -> List Jn -> Prop
 | cs, [] => cs = []
 | cs, c :: r => ∃ dv d, cs = Ji c dv ++ d /\ Qg7 dv c.n /\ ChangesC d r
def Qdk (v : V) (ls : List Jn) : Prop := ∃ cs, ChangesC cs ls /\ Zq 12 v cs ls.length
def Q4s (bv wv sv mv lv kv ov cv : V) (p : Qkm) : List V := bv :: wv :: sv :: .int .u32 p.epoch :: .int .u32 p.count :: .int .u32 p.gen :: .int .i64 p.root.at_ :: .int .u32 p.root.birth :: .int .u32 p.root.iv :: .int .u32 p.root.tag :: .int .u32 p.root.sum :: mv :: lv :: kv :: ov :: cv :: .int .i64 p.logged :: .int .i64 p.nextId :: [.int .u32 p.nextGuid]
def Qgy (sp : Nat -> Int) : Option Int -> List Int -> Bool
 | _, [] => true
 | o, a :: r => if decide (a < 12) || (decide (a >= 256) || ((match o with | some q => decide (a <= q) | none => false) || (sp a.toNat != 1))) then false else Qgy sp (some a) r
def Qob (lines : List Jo) : Option Jn -> List Jn -> Bool
 | _, [] => true
 | o, c :: r => if (match Bw lines c.set with | none => true | some l => l.kind != 1) || (!(Qdn c) || (match o with | some q => decide (Qjg q c >= 0) | none => false)) then false else Qob lines (some c) r
def Qr1 (d : Int) (tab : Bool) (p : Qkm) : Bool := (!(Qd5 d tab p.epoch p.count)) || (decide (p.gen > 16777215) || (!(Qhe p.root) || (decide (p.root = Qec) != (p.gen == 0))))
def Qx4 (p : Qkm) : Bool := (!(Qaa p.lines)) || ((!(Qcv p.keys 24)) || ((!(Qcv p.loaded 16)) || (decide (p.logged < 0) || (decide (p.logged > 8) || (decide (p.nextId < 1) || decide (p.nextId > 256))))))
def Qwy (d : Int) (tab : Bool) (sp : Nat -> Int) (p : Qkm) : Bool := if Qr1 d tab p then false else if Qgy sp none p.own then (if Qx4 p then false else if Qob p.lines none p.changes then !(p.lines.any (Yh p.nextId p.nextGuid)) else false) else false
theorem Qc8 {esz n : Nat} {v : V} {cells : List V} (h : Zq esz v cells n) : v.scalar = true := by
 obtain ⟨_, ⟨rfl, _⟩ | ⟨f, rfl⟩⟩ := h <;> rfl
theorem Qme {g : Get} {l : Jo} {dv : V} (hd : Qd0 dv l.dead) : frz g depth (.agg (Xg l dv)) = some (.agg (Xg l dv)) := by
 have := hd.frz (g := g) 10
 show Option.map V.agg (Zb (frz g 11) (Xg l dv)) = _
 have e : Zb (frz g 11) (Xg l dv) = some (Xg l dv) := by
  simp only [Xg]
  repeat' (first | refine Qt rfl ?_ | refine Qt this ?_ | rfl)
 rw [e]; rfl
theorem LinesC.len : ∀ {ls : List Jo} {cs : List V}, LinesC cs ls -> cs.length = ls.length * 13
 | [], cs, h => by
   have : cs = [] := h
   subst this; rfl
 | x :: rs, cs, h => by
   obtain ⟨dv, d, rfl, h1, h2⟩ := h
   have := h2.len
   simp only [Zl3, Zld, Zml, Xg]; omega
theorem LinesC.at_ : ∀ {ls : List Jo} {cs : List V} {i : Nat} {l : Jo}, LinesC cs ls -> ls[i]? = some l -> ∃ dv, (cs.drop (i * 13)).take 13 = Xg l dv /\ Qd0 dv l.dead
 | [], cs, i, r, h, hi => by simp at hi
 | x :: rs, cs, 0, r, h, hi => by
   obtain ⟨dv, d, rfl, h1, h2⟩ := h
   simp only [List.getElem?_cons_zero, Znr] at hi
   subst hi
   exact ⟨dv, by rfl, h1⟩
 | x :: rs, cs, i + 1, r, h, hi => by
   obtain ⟨dv, d, rfl, h1, h2⟩ := h
   simp only [List.getElem?_cons_succ] at hi
   rw [show (i + 1) * 13 = (Xg x dv).length + i * 13 by simp [Xg]; omega, <- Zl1, List.drop_left]
   exact LinesC.at_ h2 hi
theorem Qgi (c : Nat -> Int) : ∀ (n m i j : Nat), j - i <= n -> j - i <= m -> Qgv c n i j = Qgv c m i j
 | 0, 0, i, j, h, h2 => rfl
 | 0, m + 1, i, j, h, h2 => by simp only [Qgv]; rw [if_neg (by omega)]
 | n + 1, 0, i, j, h, h2 => by simp only [Qgv]; rw [if_neg (by omega)]
 | n + 1, m + 1, i, j, h, h2 => by
   simp only [Qgv]
   by_cases h1 : i < j
   . rw [if_pos h1, if_pos h1, Qgi c n m _ _ (by omega) (by omega), Qgi c n m i _ (by omega) (by omega)]
   . rw [if_neg h1, if_neg h1]
theorem Q2e {c : Nat -> Int} {i j : Nat} (h : i < j) (h2 : decide (c ((i + j) / 2) < 0) = true) : Qgv c (j - i) i j = Qgv c (j - ((i + j) / 2 + 1)) ((i + j) / 2 + 1) j := by
 obtain ⟨m, hm⟩ : ∃ m, j - i = m + 1 := ⟨j - i - 1, by omega⟩
 rw [hm]; simp only [Qgv]
 rw [if_pos h, if_pos h2]
 exact Qgi c _ _ _ _ (by omega) (by omega)
theorem Q23 {c : Nat -> Int} {i j : Nat} (h : i < j) (h2 : decide (c ((i + j) / 2) < 0) = false) : Qgv c (j - i) i j = Qgv c ((i + j) / 2 - i) i ((i + j) / 2) := by
 obtain ⟨m, hm⟩ : ∃ m, j - i = m + 1 := ⟨j - i - 1, by omega⟩
 rw [hm]; simp only [Qgv]
 rw [if_pos h, if_neg (by simp only [h2]; decide)]
 exact Qgi c _ _ _ _ (by omega) (by omega)
theorem Q2z (n : Nat) : Qc2 .shr .u64 (n : Int) 1 = some (.int .u64 ((n / 2 : Nat) : Int)) := by
 have e : min (1 : Int).toNat (IntKind.u64).bits = 1 := rfl
 have e2 : (n : Int).fdiv (2 ^ 1) = ((n / 2 : Nat) : Int) := by
  rw [Int.fdiv_eq_ediv_of_nonneg _ (by decide)]; omega
 simp only [Qc2, e, e2]
 rw [if_neg (by omega)]
theorem Qjq {ls : List Jo} {id : Int} {i : Nat} (h : Qc1 ls id = some i) : i < ls.length := by
 unfold Qc1 at h
 split at h
 . rename_i hb
   cases h
   simp only [Qjx, Zlm] at hb
   exact of_decide_eq_true hb.1
 . cases h
theorem LinesC.cells {ls : List Jo} {cs : List V} {i : Nat} (h : LinesC cs ls) (hi : i < ls.length) :
 cs[i * 13]? = some (.int .i64 ls[i].id) /\ cs[i * 13 + 1]? = some (.int .u8 ls[i].kind) /\ cs[i * 13 + 4]? = some (.int .u32 ls[i].txg) /\ cs[i * 13 + 6]? = some (.int .i64 ls[i].key) := by
 obtain ⟨dv, h1, h2⟩ := h.at_ (Zkv hi)
 have key : ∀ k, k < 13 -> cs[i * 13 + k]? = (Xg ls[i] dv)[k]? := fun k hk => by
  rw [<- h1, Zk8, if_pos hk, Zmq]
 exact ⟨key 0 (by decide), key 1 (by decide), key 4 (by decide), key 6 (by decide)⟩
theorem Qqt (l : List Kl) : (Qdh l).length = l.length * 5 := by
 induction l with
 | nil => rfl
 | cons x r ih =>
   have e : Qdh (x :: r) = x.cells ++ Qdh r := rfl
   rw [e, Zl3, ih, Zld]
   have : x.cells.length = 5 := rfl
   omega
theorem Qt6 : ∀ (l : List Kl) (i : Nat) (h : i < l.length), ((Qdh l).drop (i * 5)).take 5 = l[i].cells
 | x :: r, 0, h => by rfl
 | x :: r, i + 1, h => by
   have e : Qdh (x :: r) = x.cells ++ Qdh r := rfl
   have e2 : (i + 1) * 5 = x.cells.length + i * 5 := by
    have : x.cells.length = 5 := rfl
    omega
   rw [e, e2, <- Zl1, List.drop_left]
   exact Qt6 r i (by simpa using h)
theorem Xa (b : Bool) : (okE b != 0) = !b := by cases b <;> rfl
theorem Q3h (b : Bool) : (okE b == 0) = b := by cases b <;> rfl
theorem Qb4 {g : Get} {c : Jn} {dv : V} (hd : Qg7 dv c.n) : frz g depth (.agg (Ji c dv)) = some (.agg (Ji c dv)) := by
 obtain ⟨cells, hd⟩ := hd
 have := Zq.frz (g := g) hd 10
 show Option.map V.agg (Zb (frz g 11) (Ji c dv)) = _
 have e : Zb (frz g 11) (Ji c dv) = some (Ji c dv) := by
  simp only [Ji]
  repeat' (first | refine Qt rfl ?_ | refine Qt this ?_ | rfl)
 rw [e]; rfl
theorem Qi2.len : ∀ {l : List (List UInt8)} {cs : List V}, Qi2 cs l -> cs.length = l.length
 | [], cs, h => by
   have : cs = [] := h
   subst this; rfl
 | x :: r, cs, h => by
   obtain ⟨v, d, rfl, h1, h2⟩ := h
   simp only [Zld, h2.len]
theorem Qi2.at_ : ∀ {l : List (List UInt8)} {cs : List V} {i : Nat}, Qi2 cs l -> (h : i < l.length) -> ∃ v, cs[i]? = some v /\ Q1 v l[i]
 | x :: r, cs, 0, h, hi => by
   obtain ⟨v, d, rfl, h1, h2⟩ := h
   exact ⟨v, rfl, h1⟩
 | x :: r, cs, i + 1, h, hi => by
   obtain ⟨v, d, rfl, h1, h2⟩ := h
   obtain ⟨w, h3, h4⟩ := h2.at_ (i := i) (by simpa using hi)
   exact ⟨w, by simpa using h3, h4⟩
theorem Qks {α : Type} (p : α -> Bool) : ∀ (l : List α) (i : Nat), (Yb p i l >= 0) ↔ l.any p = true
 | [], i => by simp [Yb]
 | x :: r, i => by
   have e : Yb p i (x :: r) = if p x = true then (i : Int) else Yb p (i + 1) r := rfl
   by_cases h : p x = true
   . rw [e, if_pos h, List.any_cons, h]
     simp
   . have h' : p x = false := by simpa using h
     rw [e, if_neg h, List.any_cons, h', Zmx]; exact Qks p r (i + 1)
theorem Qk3 {α : Type} (p : α -> Bool) (l : List α) (i : Nat) : decide (Yb p i l >= 0) = l.any p := by
 rw [Bool.eq_iff_iff, decide_eq_true_eq]; exact Qks p l i
theorem le2 (b : UInt8) : ((b.toNat : Int) <= 2) ↔ (b <= 2) := by rw [UInt8.le_iff_toNat_le]; simp; omega
theorem okE_if (b : Bool) : (if b = true then (0 : Int) else 8) = okE b := rfl
theorem Qw0 {F : AM.Frame} (hw : Zo (fun f _ => Nat.ble 1 f) F = true) {n : Nat} (hn : 1 <= n) : Zo (fun f _ => Nat.ble n f) F = true := Qfl (Ql7 hn) F hw
theorem pop3 {F G : AM.Frame} {v : V} (hv : v.refs (fun f _ => Nat.ble 3 f) = false) (hw : Zo (fun f _ => Nat.ble 1 f) F = true) : B2 3 v [F, [], [], G] = [F, [], []] := by
 refine Qap (H := [F, [], []]) (G := [G]) hv ?_
 show (Zo _ F && true) = true
 rw [Qw0 hw (by simp)]; rfl
theorem pop2 {F G : AM.Frame} {v : V} (hv : v.refs (fun f _ => Nat.ble 2 f) = false) (hw : Zo (fun f _ => Nat.ble 1 f) F = true) : B2 2 v [F, [], G] = [F, []] := by
 refine Qap (H := [F, []]) (G := [G]) hv ?_
 show (Zo _ F && true) = true
 rw [Qw0 hw (by simp)]; rfl
theorem pop1 {F G : AM.Frame} {v : V} (hv : v.refs (fun f _ => Nat.ble 1 f) = false) (hw : Zo (fun f _ => Nat.ble 1 f) F = true) : B2 1 v [F, G] = [F] := by
 refine Qap (H := [F]) (G := [G]) hv ?_
 show (Zo _ F && true) = true
 rw [Qw0 hw (by simp)]; rfl
theorem ChangesC.len : ∀ {ls : List Jn} {cs : List V}, ChangesC cs ls -> cs.length = ls.length * 12
 | [], cs, h => by
   have : cs = [] := h
   subst this; rfl
 | x :: rs, cs, h => by
   obtain ⟨dv, d, rfl, h1, h2⟩ := h
   have := h2.len
   simp only [Zl3, Zld, Zml, Ji]; omega
theorem ChangesC.at_ : ∀ {ls : List Jn} {cs : List V} {i : Nat} {l : Jn}, ChangesC cs ls -> ls[i]? = some l -> ∃ dv, (cs.drop (i * 12)).take 12 = Ji l dv /\ Qg7 dv l.n
 | [], cs, i, r, h, hi => by simp at hi
 | x :: rs, cs, 0, r, h, hi => by
   obtain ⟨dv, d, rfl, h1, h2⟩ := h
   simp only [List.getElem?_cons_zero, Znr] at hi
   subst hi
   exact ⟨dv, by rfl, h1⟩
 | x :: rs, cs, i + 1, r, h, hi => by
   obtain ⟨dv, d, rfl, h1, h2⟩ := h
   simp only [List.getElem?_cons_succ] at hi
   rw [show (i + 1) * 12 = (Ji x dv).length + i * 12 by simp [Ji]; omega, <- Zl1, List.drop_left]
   exact ChangesC.at_ h2 hi
def Qnu (c : Jn) (s o i : Int) : Int := Qko [Qao c.set s, Qao c.obj o, Qao c.index i]
def cCh (ls : List Jn) (s o x : Int) (i : Nat) : Int := match ls[i]? with
 | some c => Qnu c s o x
 | none => 0
end Go.AM
end
section
namespace Go.AM.BM
def Qev : V -> Option Int
 | .int .i64 a => some a
 | _ => none
def Qld : V -> Option Int
 | .int .u32 a => some a
 | _ => none
def u8D : V -> Option Int
 | .int .u8 a => some a
 | _ => none
def Q2i : V -> UInt8
 | .int _ (.ofNat n) => UInt8.ofNat n
 | _ => 0
def Qxm (v : V) : Option (List UInt8) := match Qid v with
 | some c => if Nat.ble c.length 4096 then some (c.map Q2i) else none
 | none => none
def lenD : V -> Option Nat
 | .nS => some 0
 | .iS c n _ => if Nat.beq c.length n && Nat.ble n 4096 then some n else none
 | _ => none
def low2 : V -> Bool
 | .int .u8 (.ofNat n) => Nat.ble n 2
 | _ => false
def is1 : V -> Bool
 | .int .u8 (.ofNat n) => Nat.beq n 1
 | _ => false
def byteI : V -> Int
 | .int _ n => n
 | _ => 0
def Qwb : V -> Option (List V × Bool)
 | .nS => some ([], false)
 | .iS c n _ => if Nat.beq n 256 && (Nat.beq c.length 256 && (c.all low2 && (c.take 12).all is1)) then some (c, true) else none
 | _ => none
def spV (c : List V) (i : Nat) : Int := byteI (c.getD i .bad)
def slD {α : Type} (f : List V -> Option (List α)) : V -> Option (List α)
 | .nS => some []
 | .iS c n _ => (match f c with
   | some l => if Nat.beq l.length n && Nat.ble n 900 then some l else none
   | none => none)
 | _ => none
def Qzu : List V -> Option (List Int)
 | [] => some []
 | v :: r => (Qev v).bind fun a => (Qzu r).bind fun l => some (a :: l)
def Qpz : List V -> Option (List (List UInt8))
 | [] => some []
 | v :: r => (Qxm v).bind fun a => (Qpz r).bind fun l => some (a :: l)
def ptrD (a b c d e : V) : Option Kl := (Qev a).bind fun a => (Qld b).bind fun b => (Qld c).bind fun c => (Qld d).bind fun d => (Qld e).bind fun e => some ⟨a, b, c, d, e⟩
def Qvc : List V -> Option (List Kl)
 | [] => some []
 | a :: b :: c :: d :: e :: r => (ptrD a b c d e).bind fun p => (Qvc r).bind fun l => some (p :: l)
 | _ => none
def Qm6 : List V -> Option (List Jo)
 | [] => some []
 | a :: b :: c :: d :: e :: f :: g :: h :: i :: j :: k :: l :: m :: r => (Qev a).bind fun a => (u8D b).bind fun b => (Qev c).bind fun c => (Qev d).bind fun d => (Qld e).bind fun e => (Qld f).bind fun f => (Qev g).bind fun g => (ptrD h i j k l).bind fun p => (slD Qvc m).bind fun q => (Qm6 r).bind fun l => some (⟨a, b, c, d, e, f, g, p, q⟩ :: l)
 | _ => none
def Qdo : List V -> Option (List Jn)
 | [] => some []
 | a :: b :: c :: d :: e :: f :: g :: h :: i :: j :: k :: l :: r => (Qev a).bind fun a => (Qev b).bind fun b => (Qev c).bind fun c => (u8D d).bind fun d => (Qev e).bind fun e => (Qev f).bind fun f => (lenD g).bind fun g => (ptrD h i j k l).bind fun p => (Qdo r).bind fun l => some (⟨a, b, c, d, e, f, g, p⟩ :: l)
 | _ => none
def isI : V -> Bool
 | .nS => true
 | .iS _ _ _ => true
 | _ => false
def Q2x : List V -> Option Qkm
 | [_, _, _, e, c, g, ra, rb, rc, rd, re, mv, lv, kv, ov, cv, lg, ni, ng] => (Qld e).bind fun e => (Qld c).bind fun c => (Qld g).bind fun g => (ptrD ra rb rc rd re).bind fun p => (slD Qzu mv).bind fun m => (slD Qm6 lv).bind fun ls => (slD Qpz kv).bind fun ks => (slD Qpz ov).bind fun os => (slD Qdo cv).bind fun cs => (Qev lg).bind fun lg => (Qev ni).bind fun ni => (Qld ng).bind fun ng => some ⟨e, c, g, p, m, ls, ks, os, cs, lg, ni, ng⟩
 | _ => none
def kTxg : List V -> Option V
 | [.agg (bv :: wv :: sv :: r)] => if isI bv && isI wv then (match Ql0 [.agg [bv, wv]] with
   | some (.int .i64 d) => (Qwb sv).bind fun t => (Q2x (bv :: wv :: sv :: r)).bind fun p => some (.int .i64 (okE (Qwy d t.2 (spV t.1) p)))
   | _ => none) else none
 | _ => none
end Go.AM.BM
end
section
namespace Go.AM.BM
def Qyu (f : FuncId) : List V -> Option V
 | [v, .agg [s, o, x], .func (.func g) [] []] => if Nat.beq g f then (slD Qdo v).bind fun ls => (Qev s).bind fun s => (Qev o).bind fun o => (Qev x).bind fun x => some (.tuple [.int .i64 (Int.ofNat (bs (cCh ls s o x) ls.length)), .bool (Qjx (cCh ls s o x) ls.length)]) else none
 | _ => none
end Go.AM.BM
end
section
namespace Go.AM
variable {P : Program}
theorem Qgj {w : World} {ts : Array TypeId} {t ty e T : TypeId} {n b o ld dc ls k : Nat} {src : Value} {vs : List Value} {cur : Array Value} (ht : ts[0]? = some t) (hu : P.underlying t = some (.slice e)) (hn : sz P e = some n)
 (hb : w.heap[b]? = some (.cells cur T (0, 0))) (hls : ∀ w', (Builtin.lenOf src).run P w' = .ok ls w') (hk : min ls ld = k) (hsrc : (Builtin.firstCells n k src).run P w = .ok ⟨vs⟩ w) (hfit : o + vs.length <= cur.size) (h1 : ∀ v ∈ vs, v.oneCell' = true) :
 (Builtin.copy_ ts ty #[.slice (some ⟨b, o, none⟩) ld dc, src]).run P w = .ok (goInt k) (w.setRow b ⟨splice cur.toList o vs⟩) := by
 have hst := run_storeCells_at P b o T vs 0 cur w hb (by simp only [Zm6]; omega) h1
 simp only [Zm6] at hst
 subst hk
 simp only [Builtin.copy_, ht, Qss, Qsh, Znt, Qm hu, Zns, hls, Jm hn, Nat.min_eq_min, hsrc, hst, Znu]
 rfl
theorem Qu6 (w : World) (c1 c2 : Array Value) (T : TypeId) (h : Array Obj) : ({ w with heap := h.push (.cells c1 T) } : World).setRow h.size c2 = { w with heap := h.push (.cells c2 T) } := by
 simp only [World.setRow]
 congr 1
 apply Array.ext_getElem?
 intro i
 simp only [Array.getElem?_modify, Array.getElem?_push]
 split
 . subst_vars; simp
 . split
   . exact absurd (by assumption) (fun e => by simp_all)
   . rfl
theorem Qda {w w' : World} {b off : Nat} {vs : List Value} (e : w'.heap[b]? = w.heap[b]?) (h : Qc3 w b off vs) : Qc3 w' b off vs := by
 intro i v hv
 have := h i v hv
 simp only [World.cell?, e] at this ⊢
 exact this
theorem Qy9 {w : World} {b : Nat} {cur : Array Value} {T : TypeId} {z : Nat × Nat} {vs rest : List Value} (hb : w.heap[b]? = some (.cells cur T z)) (hc : cur.toList = vs ++ rest) : Qc3 w b 0 vs := by
 intro i v hv
 have : cur[i]? = some v := by
  rw [<- Zl9, hc, Zl5]
  . exact hv
  . exact (Zl7.1 hv).1
 simp [World.cell?, hb, this]
theorem Qof {α : Type} (vs rest news : List α) (k e : Nat) (hk : k <= vs.length) (he : news.length = e) (hr : e <= rest.length) :
 splice (splice (vs ++ rest) (k + e) (vs.drop k)) k news = (vs.take k ++ news ++ vs.drop k) ++ rest.drop e := by
 unfold splice
 apply Zme
 intro i
 simp only [List.getElem?_append, Zk8, Zmq, Zl3, Znc, Zm3]
 grind
theorem Qrf {α : Type} (vs rest news : List α) (k : Nat) (hk : k = vs.length) : splice (vs ++ rest) k news = (vs ++ news) ++ rest.drop news.length := by
 subst hk
 unfold splice
 apply Zme
 intro i
 simp only [List.getElem?_append, Zk8, Zmq, Zl3, Znc, Zm3]
 grind
theorem Qol {α : Type} (olds Z rest news tail : List α) (k e : Nat) (ho : olds.length = k) (he : news.length = e) (hZ : Z.length = e + tail.length) :
 splice (splice (olds ++ Z ++ rest) k news) (k + e) tail = (olds ++ news ++ tail) ++ rest := by
 unfold splice
 apply Zme
 intro i
 simp only [List.getElem?_append, Zk8, Zmq, Zl3, Znc, Zm3]
 grind
end Go.AM
end
section
namespace Go.AM.BM
noncomputable def n64 (n : Nat) : V := .int .i64 (Int.ofNat n)
noncomputable def n32 (n : Nat) : V := .int .u32 (Int.ofNat n)
noncomputable def n8 (n : Nat) : V := .int .u8 (Int.ofNat n)
noncomputable def upT (k : Nat) (v : V) (l : List V) : List V := l.set k v
def Qgx (f0 : FuncId) (g : Qbj) (K : FuncId -> Option Qbj) : FuncId -> Option Qbj := fun f => bif Nat.beq f f0 then some g else K f
abbrev KOk (P : Program) (K : FuncId -> Option Qbj) : Prop := ∀ f g, K f = some g -> Qe0 P f g
theorem Xc {P : Program} {f0 : FuncId} {g0 : Qbj} {K : FuncId -> Option Qbj} (h : Qe0 P f0 g0) (hK : KOk P K) : KOk P (Qgx f0 g0 K) := by
 intro f g e
 simp only [Qgx] at e
 cases hb : Nat.beq f f0
 . rw [hb] at e
   exact hK f g e
 . rw [hb] at e
   cases e
   rw [Znh hb]
   exact h
abbrev Xm (P : Program) (f : FuncId) (L : List (List V × V)) : Prop := ∀ e ∈ L, Qk e.1 = true /\ Ans P f e.1 e.2
theorem Qt3 {P : Program} {f : FuncId} : Xm P f [] := fun _ h => by cases h
theorem Yc {P : Program} {f : FuncId} {a : List V} {y : V} {L : List (List V × V)} (hp : Qk a = true) (h : Ans P f a y) (hL : Xm P f L) : Xm P f ((a, y) :: L) := by
 intro e he
 cases he with
 | head => exact ⟨hp, h⟩
 | tail _ he => exact hL e he
theorem noK {P : Program} : KOk P fun _ => none := fun _ _ h => by cases h
end Go.AM.BM
end
section
namespace Go
def jf1 (P : Program) (f : FuncId) (fn : Func) (s : ChangeSpec) (c : OpenClaim) : Bool := c.wf (OpenSpec.ofChange s)
def jf2 (P : Program) (f : FuncId) (fn : Func) (s : ChangeSpec) (c : OpenClaim) : Bool := laidOutB P
def jf3 (P : Program) (f : FuncId) (fn : Func) (s : ChangeSpec) (c : OpenClaim) : Bool := mapsRowed P
def jf4 (P : Program) (f : FuncId) (fn : Func) (s : ChangeSpec) (c : OpenClaim) : Bool := fn.params.all (P.readableRec ·)
def jf5 (P : Program) (f : FuncId) (fn : Func) (s : ChangeSpec) (c : OpenClaim) : Bool := namedTie P c.named s.vars
def jf6 (P : Program) (f : FuncId) (fn : Func) (s : ChangeSpec) (c : OpenClaim) : Bool := (c.stops == [])
def jf7 (P : Program) (f : FuncId) (fn : Func) (s : ChangeSpec) (c : OpenClaim) : Bool := (P.stops == [])
def jf8 (P : Program) (f : FuncId) (fn : Func) (s : ChangeSpec) (c : OpenClaim) : Bool := (c.knobs == [])
def jf9 (P : Program) (f : FuncId) (fn : Func) (s : ChangeSpec) (c : OpenClaim) : Bool := (P.stopKnobs == [])
def jf10 (P : Program) (f : FuncId) (fn : Func) (s : ChangeSpec) (c : OpenClaim) : Bool := (c.inPlace == P.inPlace f)
def jf11 (P : Program) (f : FuncId) (fn : Func) (s : ChangeSpec) (c : OpenClaim) : Bool := (c.unfollowed == P.unfollowed f)
def jf12 (P : Program) (f : FuncId) (fn : Func) (s : ChangeSpec) (c : OpenClaim) : Bool := (c.recurses == P.recurses f)
def jf13 (P : Program) (f : FuncId) (fn : Func) (s : ChangeSpec) (c : OpenClaim) : Bool := (c.named == P.varsNamed f)
def jf14 (P : Program) (f : FuncId) (fn : Func) (s : ChangeSpec) (c : OpenClaim) : Bool := (c.maps == (fn.params.toList ++ s.plain.varTypes P).any (P.mapsRec ·))
def jf15 (P : Program) (f : FuncId) (fn : Func) (s : ChangeSpec) (c : OpenClaim) : Bool := (c.ifaces == (fn.params.toList ++ s.plain.varTypes P).any (P.ifacesRec ·))
def jf16 (P : Program) (f : FuncId) (fn : Func) (s : ChangeSpec) (c : OpenClaim) : Bool := (c.mapsOut == P.mapsAmong fn.resultTypes.toList)
def jf17 (P : Program) (f : FuncId) (fn : Func) (s : ChangeSpec) (c : OpenClaim) : Bool := (c.loops == (fn.params.toList ++ s.plain.varTypes P).any (P.loopsFrom ·))
def jf18 (P : Program) (f : FuncId) (fn : Func) (s : ChangeSpec) (c : OpenClaim) : Bool := (c.wideKeys == (fn.params.toList ++ s.plain.varTypes P ++ fn.resultTypes.toList).any (P.wideKeysFrom ·))
def jf19 (P : Program) (f : FuncId) (fn : Func) (s : ChangeSpec) (c : OpenClaim) : Bool := s.vars.all (P.varReadable ·)
def jf20 (P : Program) (f : FuncId) (fn : Func) (s : ChangeSpec) (c : OpenClaim) : Bool := fn.resultTypes.all (fun t => P.readableRec t && decide (t < P.types.size))
def jf21 (P : Program) (f : FuncId) (fn : Func) (s : ChangeSpec) (c : OpenClaim) : Bool := (c.ifacesOut == fn.resultTypes.toList.any (P.ifacesRec ·))
def jf22 (P : Program) (f : FuncId) (fn : Func) (s : ChangeSpec) (c : OpenClaim) : Bool := (c.loopsOut == fn.resultTypes.toList.any (P.loopsFrom ·))
def jf23 (P : Program) (f : FuncId) (fn : Func) (s : ChangeSpec) (c : OpenClaim) : Bool := (c.plainKeys == P.plainKeys)
def jf24 (P : Program) (f : FuncId) (fn : Func) (s : ChangeSpec) (c : OpenClaim) : Bool := c.shortTexts.isNone
def jf25 (P : Program) (f : FuncId) (fn : Func) (s : ChangeSpec) (c : OpenClaim) : Bool := P.stopsHeard
def jf26 (P : Program) (f : FuncId) (fn : Func) (s : ChangeSpec) (c : OpenClaim) : Bool := P.mayEnter
def jf27 (P : Program) (f : FuncId) (fn : Func) (s : ChangeSpec) (c : OpenClaim) : Bool := (c.lifted == P.liftsFinal)
def jf28 (P : Program) (f : FuncId) (fn : Func) (s : ChangeSpec) (c : OpenClaim) : Bool := (P.make == some c.make)
def jf29 (P : Program) (f : FuncId) (fn : Func) (s : ChangeSpec) (c : OpenClaim) : Bool := (c.kinds == (if c.domain.isEmpty then [] else fn.params.toList.map fun t => match P.underlying t with | some (.int k) => some k | _ => none))
def jf30 (P : Program) (f : FuncId) (fn : Func) (s : ChangeSpec) (c : OpenClaim) : Bool := (c.pinned == c.pinnedBy)
def jf31 (P : Program) (f : FuncId) (fn : Func) (s : ChangeSpec) (c : OpenClaim) : Bool := (c.veiled == (fn.params.toList ++ s.plain.varTypes P ++ fn.resultTypes.toList).any (P.veiledRec ·))
def jf32 (P : Program) (f : FuncId) (fn : Func) (s : ChangeSpec) (c : OpenClaim) : Bool := c.veiledFits P fn.params.toList (fn.params.toList ++ s.plain.varTypes P ++ fn.resultTypes.toList)
set_option linter.unusedVariables false in
theorem Q1b {P : Program} {f : FuncId} {fn : Func} {s : ChangeSpec} {c : OpenClaim} (h1 : jf1 P f fn s c = true) (h2 : jf2 P f fn s c = true) (h3 : jf3 P f fn s c = true) (h4 : jf4 P f fn s c = true) (h5 : jf5 P f fn s c = true) (h6 : jf6 P f fn s c = true) (h7 : jf7 P f fn s c = true) (h8 : jf8 P f fn s c = true) (h9 : jf9 P f fn s c = true) (h10 : jf10 P f fn s c = true) (h11 : jf11 P f fn s c = true) (h12 : jf12 P f fn s c = true) (h13 : jf13 P f fn s c = true) (h14 : jf14 P f fn s c = true) (h15 : jf15 P f fn s c = true) (h16 : jf16 P f fn s c = true) (h17 : jf17 P f fn s c = true) (h18 : jf18 P f fn s c = true) (h19 : jf19 P f fn s c = true) (h20 : jf20 P f fn s c = true) (h21 : jf21 P f fn s c = true) (h22 : jf22 P f fn s c = true) (h23 : jf23 P f fn s c = true) (h24 : jf24 P f fn s c = true) (h25 : jf25 P f fn s c = true) (h26 : jf26 P f fn s c = true) (h27 : jf27 P f fn s c = true) (h28 : jf28 P f fn s c = true) (h29 : jf29 P f fn s c = true) (h30 : jf30 P f fn s c = true) (h31 : jf31 P f fn s c = true) (h32 : jf32 P f fn s c = true) : joinedFacts P f fn s c = true := by
 unfold joinedFacts
 simp only [Bool.and_eq_true]
 refine ⟨⟨⟨⟨⟨⟨⟨⟨⟨⟨⟨⟨⟨⟨⟨⟨⟨⟨⟨⟨⟨⟨⟨⟨⟨⟨⟨⟨⟨⟨⟨h1, h2⟩, h3⟩, h4⟩, h5⟩, h6⟩, h7⟩, h8⟩, h9⟩, h10⟩, h11⟩, h12⟩, h13⟩, h14⟩, h15⟩, h16⟩, h17⟩, h18⟩, h19⟩, h20⟩, h21⟩, h22⟩, h23⟩, h24⟩, h25⟩, h26⟩, h27⟩, h28⟩, h29⟩, h30⟩, h31⟩, h32⟩
end Go
end
