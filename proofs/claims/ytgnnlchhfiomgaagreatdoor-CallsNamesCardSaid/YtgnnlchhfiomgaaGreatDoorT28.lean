/- This file holds in one the texts DK, DL, DK2, EP, DK3, DK4, DZ0, Bx37, Jf; each says at its head what it proves. -/
import Derived.Test.YtgnnlchhfiomgaaGreatDoorT13
import Derived.Test.YtgnnlchhfiomgaaGreatDoorT22
import Derived.Test.YtgnnlchhfiomgaaGreatDoorT24
import Derived.Test.YtgnnlchhfiomgaaGreatDoorT26
import Derived.Test.YtgnnlchhfiomgaaGreatDoorT27
import Derived.OwnWalk
import Derived.WalkKit
import Derived.Shelf.RegionOpenPlain
import Derived.Lib.Overlaps
import Derived.Laws.Externs
import Derived.JoinedOf
set_option linter.unusedSimpArgs false
set_option linter.unusedVariables false
section
namespace Go.AM.BM
def isNumB : V -> Bool
 | .int _ _ => true
 | _ => false
def Qyi (v : V) : Bool := match v with
 | .iS c n _ => Nat.beq n 256 && (Nat.beq c.length 256 && c.all isNumB)
 | _ => false
def Qoy : V -> List V
 | .iS c _ _ => c
 | _ => []
def Qck : List V -> Bool
 | [] => true
 | .int .i64 a :: v :: r => decide (0 <= a) && decide (a < 256) && Qyi v && Qck r
 | _ => false
def Qhd : V -> Option (List V × Nat)
 | .nS => some ([], 0)
 | .iS cs n _ => if Nat.beq cs.length (n * 2) && Nat.ble n 4096 && Qck cs then some (cs, n) else none
 | _ => none
def Qis : V -> Option (List V)
 | .iS rv n _ => if Nat.beq n 256 && Nat.beq rv.length 256 && rv.all Qyi then some rv else none
 | _ => none
def newRow (fl : Bool) (v : V) : V := .iS (Qoy v) 256 fl
def Qdc : List V -> List V
 | a :: v :: r => a :: newRow false v :: Qdc r
 | l => l
def Qr1 (rv cs : List V) (n : Nat) : V := .agg [.iS (rv.map (newRow true)) 256 false, if n = 0 then .nS else .iS (Qdc cs) n false]
def Qza : List V -> Option V
 | [.agg [bv, wv]] => (match Qis bv, Qhd wv with
   | some rv, some (cs, n) => some (Qr1 rv cs n)
   | _, _ => none)
 | _ => none
def Qd0 : List V -> List V -> List V
 | .int _ a :: v :: r, rv => Qd0 r (rv.set a.toNat v)
 | _, rv => rv
def isFn : V -> Bool
 | .func (.func _) [] [] => true
 | .func (.func _) [] [.iptr _ _] => true
 | .func (.func _) [] [.bad] => true
 | _ => false
def isAll (all : FuncId) : V -> Bool
 | .func (.func f) [] [] => Nat.beq f all
 | _ => false
def Qy1 (all : FuncId) : List V -> Option V
 | [.agg [bv, wv], sv] => if isFn sv then (match Qis bv, Qhd wv with
   | some rv, some (cs, n) => if isAll all sv || Nat.beq n 0 then some (Qr1 (Qd0 cs rv) [] 0) else none
   | _, _ => none) else none
 | _ => none
def Qod : List V -> Option V
 | [.agg [.nS, .nS]] => some (.int .i64 8)
 | [.agg [bv, wv]] => (match Qis bv, Qhd wv with
   | some _, some _ => some (.int .i64 0)
   | _, _ => none)
 | _ => none
def Q59 : List V := List.replicate 256 (.int .u8 0)
def kNew : List V -> Option V
 | [] => some (.agg [.iS (List.replicate 256 (.iS Q59 256 true)) 256 false, .nS])
 | _ => none
/-! ### Sums -/
structure W4 where
 a : Nat
 b : Nat
 c : Nat
 d : Nat
noncomputable def Qb4 (x y : Nat) : Nat := Nat.mod (Nat.add x y) (nat_lit 4294967296)
noncomputable def Qfv (x k : Nat) : Nat := Nat.lor (Nat.mod (Nat.shiftLeft x k) (nat_lit 4294967296)) (Nat.shiftRight x (Nat.sub (nat_lit 32) k))
noncomputable def Qgu {α : Type} (x : Nat) (k : Nat -> α) : α := Nat.rec (motive := fun _ => α) (k (nat_lit 0)) (fun m _ => k (Nat.succ m)) x
noncomputable def Qfl (far near : Nat) (x : W4) : W4 :=
 Qgu (Qb4 x.a x.b) fun a => Qgu (Qfv (Nat.xor x.d a) far) fun d => Qgu (Qb4 x.c d) fun c => Qgu (Qfv (Nat.xor x.b c) near) fun b => ⟨a, b, c, d⟩
noncomputable def Qgf (x : W4) : W4 := Qfl (nat_lit 9) (nat_lit 6) (Qfl (nat_lit 15) (nat_lit 11) x)
noncomputable def Kw (n : Nat) : W4 -> W4 := Nat.rec (motive := fun _ => W4 -> W4) (fun x => x) (fun _ ih x => ih (Qgf x)) n
noncomputable def Qxm (v : V) : Nat := vInt v (fun _ m => Int.rec (motive := fun _ => Nat) (fun a => a) (fun _ => nat_lit 0) m) (nat_lit 0)
noncomputable def num4 (w x y z : V) : Nat := Nat.add (Qxm w) (Nat.mul (nat_lit 256) (Nat.add (Qxm x) (Nat.mul (nat_lit 256) (Nat.add (Qxm y) (Nat.mul (nat_lit 256) (Qxm z))))))
noncomputable def Qig (n : Nat) : List V -> W4 -> W4 := Nat.rec (motive := fun _ => List V -> W4 -> W4) (fun _ x => x) (fun _ ih l x => match l with
 | a :: b :: c :: d :: e :: f :: g :: h :: r => Qgu (Nat.xor x.a (num4 a b c d)) fun p => Qgu (Nat.xor x.c (num4 e f g h)) fun q => ih r (Kw (nat_lit 4) ⟨p, x.b, q, x.d⟩)
 | _ => x) n
noncomputable def pad8 (l : List V) : List V := l ++ .int .u8 1 :: List.replicate ((8 - (l.length + 1) % 8) % 8) (.int .u8 0)
noncomputable def Quc (l : List V) : W4 := match Qig (l.length + 1) (pad8 l) ⟨1, 2, 3, 4⟩ with
 | x => Kw (nat_lit 8) ⟨x.a, Nat.xor x.b l.length, x.c, x.d⟩
def Qlf : V -> Bool
 | .int .u8 (.ofNat n) => Nat.blt n 256
 | _ => false
def Qj0 : V -> Option (List V)
 | .nS => some []
 | .iS c n _ => if Nat.beq c.length n && (Nat.ble n 1048576 && c.all Qlf) then some c else none
 | _ => none
noncomputable def kSum : List V -> Option V
 | [x] => (match Qj0 x with
   | some l => some (.int .u32 (Int.ofNat (Quc l).a))
   | none => none)
 | _ => none
noncomputable def maxV (l : List V) : Nat -> Nat := List.rec (motive := fun _ => Nat -> Nat) (fun m => m) (fun v _ ih m => Bool.rec (motive := fun _ => Nat) (ih m) (ih (Qxm v)) (Nat.ble (Nat.succ m) (Qxm v))) l
noncomputable def kMax : List V -> Option V
 | [x] => (match Qj0 x with
   | some (v :: l) => some (.int .u8 (Int.ofNat (maxV l (Qxm v))))
   | _ => none)
 | _ => none
end Go.AM.BM
end
section
namespace Go.AM
def Qb0 (L : List (Int × V)) (c : List V) (b : Nat) : List V := match L[b]? with
 | some (k, v) => c.set k.toNat v
 | none => c
def Z7 (L : List (Int × V)) (seen : List Nat) (rv : List V) : List V := seen.foldl (Qb0 L) rv
theorem Qul (L : List (Int × V)) (seen : List Nat) (b : Nat) (rv : List V) (k : Int) (v : V) (h : L[b]? = some (k, v)) : Z7 L (seen ++ [b]) rv = (Z7 L seen rv).set k.toNat v := by
 simp only [Z7, List.foldl_append, Zkp, List.foldl_nil, Qb0, h]
theorem Qao (L : List (Int × V)) : ∀ (seen : List Nat) (rv : List V), (Z7 L seen rv).length = rv.length
 | [], rv => rfl
 | b :: seen, rv => by
   show (Z7 L seen (Qb0 L rv b)).length = _
   rw [Qao L seen]
   unfold Qb0
   split
   . rw [Zl8]
   . rfl
theorem Qas (L : List (Int × V)) (i : Nat) : ∀ (seen : List Nat) (rv : List V), (∀ b ∈ seen, ∀ k v, L[b]? = some (k, v) -> k.toNat ≠ i) -> (Z7 L seen rv)[i]? = rv[i]?
 | [], rv, _ => rfl
 | b :: seen, rv, h => by
   show (Z7 L seen (Qb0 L rv b))[i]? = _
   rw [Qas L i seen _ (fun c hc => h c (Zkg _ hc))]
   unfold Qb0
   split
   . rename_i k v hk
     rw [Zlv, if_neg (h b (by simp) k v hk)]
   . rfl
theorem Qd8 (L : List (Int × V)) (hd : ∀ (b c : Nat) (k : Int) (v w : V), L[b]? = some (k, v) -> L[c]? = some (k, w) -> b = c) (h0 : ∀ (b : Nat) (k : Int) (v : V), L[b]? = some (k, v) -> 0 <= k) {b : Nat} {k : Int} {v : V} (hL : L[b]? = some (k, v)) :
 ∀ (seen : List Nat) (rv : List V), b ∈ seen -> k.toNat < rv.length -> (Z7 L seen rv)[k.toNat]? = some v
 | [], _, h, _ => by cases h
 | c :: seen, rv, h, hi => by
   show (Z7 L seen (Qb0 L rv c))[k.toNat]? = _
   by_cases hs : b ∈ seen
   . refine Qd8 L hd h0 hL seen _ hs ?_
     unfold Qb0
     split
     . rw [Zl8]; exact hi
     . exact hi
   . have hc : b = c := by
      rcases Zke.1 h with h | h
      . exact h
      . exact absurd h hs
     subst hc
     rw [Qas L]
     . simp only [Qb0, hL]
       rw [Zlv, if_pos rfl, if_pos hi]
     . intro c hcs k' v' hk' e
       have : k' = k := by have := h0 _ _ _ hL; have := h0 _ _ _ hk'; omega
       subst this
       exact hs (hd _ _ _ _ _ hL hk' ▸ hcs)
theorem Qxj (L : List (Int × V)) (hd : ∀ (b c : Nat) (k : Int) (v w : V), L[b]? = some (k, v) -> L[c]? = some (k, w) -> b = c) (h0 : ∀ (b : Nat) (k : Int) (v : V), L[b]? = some (k, v) -> 0 <= k) (seen : List Nat) (hall : ∀ b, b < L.length -> b ∈ seen) (rv : List V) (hk : ∀ (b : Nat) (k : Int) (v : V), L[b]? = some (k, v) -> k.toNat < rv.length) :
 Z7 L seen rv = Z7 L (List.range L.length) rv := by
 apply Zk9
 intro i
 by_cases h : ∃ (b : Nat) (k : Int) (v : V), L[b]? = some (k, v) /\ k.toNat = i
 . obtain ⟨b, k, v, hL, rfl⟩ := h
   have hb : b < L.length := (Zk2.1 hL).1
   rw [Qd8 L hd h0 hL seen rv (hall b hb) (hk _ _ _ hL), Qd8 L hd h0 hL _ rv (Zlm.2 hb) (hk _ _ _ hL)]
 . have hm : ∀ s : List Nat, ∀ b ∈ s, ∀ k v, L[b]? = some (k, v) -> k.toNat ≠ i := fun s b _ k v hL e => h ⟨b, k, v, hL, e⟩
   rw [Qas L i _ _ (hm _), Qas L i _ _ (hm _)]
theorem Qqa (seen : List Nat) : ∀ (es : List (V × V)) (i : Nat) (x : (V × V) × Nat), x ∈ Yz seen es (List.range' i es.length) -> i <= x.2 /\ es[x.2 - i]? = some x.1 /\ x.2 ∉ seen
 | [], _, x, h => by cases h
 | e :: es, i, x, h => by
   simp only [Zj9, Zka, Yz] at h
   have next : x ∈ Yz seen es (List.range' (i + 1) es.length) -> i <= x.2 /\ (e :: es)[x.2 - i]? = some x.1 /\ x.2 ∉ seen := by
    intro h
    obtain ⟨h1, h2, h3⟩ := Qqa seen es (i + 1) x h
    refine ⟨by omega, ?_, h3⟩
    have e : x.2 - i = (x.2 - (i + 1)) + 1 := by omega
    rw [e]; exact h2
   split at h
   . exact next h
   . rename_i hc
     rcases Zke.1 h with rfl | h
     . exact ⟨Zjw _, by simp, by simpa using hc⟩
     . exact next h
theorem Qpr (seen : List Nat) : ∀ (es : List (V × V)) (i : Nat), Yz seen es (List.range' i es.length) = [] -> ∀ b, i <= b -> b < i + es.length -> b ∈ seen
 | [], _, _, b, h1, h2 => by simp at h2; omega
 | e :: es, i, h, b, h1, h2 => by
   simp only [Zj9, Zka, Yz] at h h2
   split at h
   . rename_i hc
     by_cases e : b = i
     . subst e; simpa using hc
     . exact Qpr seen es (i + 1) h b (by omega) (by omega)
   . cases h
theorem Quk (seen : List Nat) (c : Nat) : ∀ (es : List (V × V)) (bs : List Nat), (Yz (seen ++ [c]) es bs).length <= (Yz seen es bs).length
 | [], bs => by cases bs <;> simp [Yz]
 | e :: es, [] => by simp [Yz]
 | e :: es, b :: bs => by
   have := Quk seen c es bs
   simp only [Yz]
   split <;> split
   . exact this
   . simp only [Zj9]; omega
   . rename_i h1 h2
     simp at h1 h2
     exact absurd h2 h1.1
   . simp only [Zj9]; omega
theorem Qht (seen : List Nat) (x : (V × V) × Nat) : ∀ (es : List (V × V)) (bs : List Nat), x ∈ Yz seen es bs -> (Yz (seen ++ [x.2]) es bs).length < (Yz seen es bs).length
 | [], bs, h => by cases bs <;> simp [Yz] at h
 | e :: es, [], h => by simp [Yz] at h
 | e :: es, b :: bs, h => by
   have le := Quk seen x.2 es bs
   simp only [Yz] at h ⊢
   by_cases hb : seen.contains b = true
   . have hb2 : (seen ++ [x.2]).contains b = true := by simp at hb ⊢; exact .inl hb
     simp only [hb, hb2, if_true] at h ⊢
     exact Qht seen x es bs h
   . simp only [hb, Zjv, if_false] at h ⊢
     rcases Zke.1 h with rfl | h
     . have : (seen ++ [b]).contains b = true := by simp
       simp only [this, if_true, Zj9]
       simp only at le
       omega
     . have := Qht seen x es bs h
       split <;> simp only [Zj9] <;> omega
theorem Qlr (b : Nat) : ∀ (es : List (V × V)) (i : Nat), i <= b -> Qbg b es (List.range' i es.length) = es[b - i]?
 | [], i, h => by simp [Qbg]
 | e :: es, i, h => by
   simp only [Zj9, Zka, Qbg]
   split
   . rename_i q; subst q; simp
   . have q : b - i = (b - (i + 1)) + 1 := by omega
     rw [q, Qlr b es (i + 1) (by omega)]; rfl
end Go.AM
end
section
namespace Go.AM.BM
def slC : V -> Option (List V × Nat)
 | .nS => some ([], 0)
 | .iS c n _ => if Nat.beq c.length n && Nat.ble n 1048576 then some (c, n) else none
 | _ => none
def numC : List V -> Option Nat
 | [] => some 0
 | .int .u8 (.ofNat b) :: r => if Nat.blt b 256 then (match numC r with
   | some n => some (Nat.add b (Nat.mul 256 n))
   | none => none) else none
 | _ => none
def kGet : List V -> Option V
 | [x, .int .i64 (.ofNat a), .int .i64 (.ofNat k)] => (match slC x with
   | some (c, n) => if Nat.ble a 1048576 && Nat.ble k 1048576 then
      (if Nat.beq k 0 || (Nat.blt 4 k || Nat.blt n a) then some (.tuple [.int .i64 (.ofNat 0), .int .i64 (.ofNat 2)])
       else if Nat.blt n (Nat.add a k) then some (.tuple [.int .i64 (.ofNat 0), .int .i64 (.ofNat 8)])
       else (match numC ((c.drop a).take k) with
        | some m => some (.tuple [.int .i64 (.ofNat m), .int .i64 (.ofNat 0)])
        | none => none)) else none
   | none => none)
 | _ => none
def Qhl (n : Nat) : Nat -> List V
 | 0 => []
 | k + 1 => .int .u8 (.ofNat (Nat.mod n 256)) :: Qhl (Nat.div n 256) k
noncomputable def keyC (x : W4) : List V := Qhl x.a 4 ++ (Qhl x.b 4 ++ (Qhl x.c 4 ++ Qhl x.d 4))
noncomputable def kKey : List V -> Option V
 | [x] => (match Qj0 x with
   | some l => some (.iS (keyC (Quc l)) 16 false)
   | none => none)
 | _ => none
end Go.AM.BM
end
section
namespace Go.AM
structure Kh where
 at_ : Int
 birth : Int
 iv : Int
 tag : Int
 sum : Int
 deriving DecidableEq
def Kh.cells (p : Kh) : List V := [.int .i64 p.at_, .int .u32 p.birth, .int .u32 p.iv, .int .u32 p.tag, .int .u32 p.sum]
def Qek : Kh := ⟨0, 0, 0, 0, 0⟩
def Q4n (p : Kh) : Bool := decide (p.at_ < 12) || (decide (p.at_ >= 256) || (decide (p.birth < 1) || decide (p.birth > 16777215)))
def Qgv (p : Kh) : Bool := decide (p = Qek) || !Q4n p
def okE (b : Bool) : Int := if b then 0 else 8
def Qag (a b : Int) : Int := if decide (a < b) then -1 else if decide (a > b) then 1 else 0
def Qki : List Int -> Int
 | [] => 0
 | x :: r => if x != 0 then x else Qki r
def Qgn (v : V) (n : Nat) : Prop := ∃ cells, Zn 1 v cells n
structure Jj where
 id : Int
 kind : Int
 owner : Int
 prev : Int
 txg : Int
 guid : Int
 key : Int
 root : Kh
 dead : List Kh
 deriving DecidableEq
def Qc8 (l : List Kh) : List V := l.flatMap Kh.cells
def Ky (l : Jj) (dv : V) : List V := .int .i64 l.id :: .int .u8 l.kind :: .int .i64 l.owner :: .int .i64 l.prev :: .int .u32 l.txg :: .int .u32 l.guid :: .int .i64 l.key :: .int .i64 l.root.at_ :: .int .u32 l.root.birth :: .int .u32 l.root.iv :: .int .u32 l.root.tag :: .int .u32 l.root.sum :: [dv]
def Qd4 (v : V) (l : List Kh) : Prop := Zn 5 v (Qc8 l) l.length
def LinesC : List V -> List Jj -> Prop
 | cs, [] => cs = []
 | cs, l :: ls => ∃ dv d, cs = Ky l dv ++ d /\ Qd4 dv l.dead /\ LinesC d ls
def Qgd (v : V) (ls : List Jj) : Prop := ∃ cs, LinesC cs ls /\ Zn 13 v cs ls.length
def Qgm (c : Nat -> Int) : Nat -> Nat -> Nat -> Nat
 | 0, i, _ => i
 | n + 1, i, j => if i < j then (if decide (c ((i + j) / 2) < 0) then Qgm c n ((i + j) / 2 + 1) j else Qgm c n i ((i + j) / 2)) else i
def bs (c : Nat -> Int) (n : Nat) : Nat := Qgm c n 0 n
def Qjr (c : Nat -> Int) (n : Nat) : Bool := decide (bs c n < n) && decide (c (bs c n) = 0)
def B4 (ls : List Jj) (id : Int) (i : Nat) : Int := match ls[i]? with
 | some l => Qag l.id id
 | none => 0
def Qcz (ls : List Jj) (id : Int) : Option Nat := if Qjr (B4 ls id) ls.length then some (bs (B4 ls id) ls.length) else none
def Bl (ls : List Jj) (id : Int) : Option Jj := match Qcz ls id with
 | some i => ls[i]?
 | none => none
def Qqk (ls : List Jj) (x : Jj) : Bool := match Bl ls x.owner with
 | none => false
 | some o => if (o.kind != 1) || ((x.kind == 1) && (x.owner != x.id)) then false else if x.prev == 0 then true else match Bl ls x.prev with
   | none => false
   | some p => if (p.kind != 2) || (p.key != x.key) then false else decide (p.txg < x.txg) || ((p.txg == x.txg) && (x.kind == 1))
def Qfu : Option Kh -> List Kh -> Bool
 | _, [] => true
 | o, p :: r => if decide (p = Qek) || (!(Qgv p) || (match o with | some q => decide (Qag q.at_ p.at_ >= 0) | none => false)) then false else Qfu (some p) r
def Qme (l : List Kh) : Bool := if decide ((l.length : Int) > 240) then false else Qfu none l
def before {α : Type} (l : List α) (i : Nat) : Option α := match i with | 0 => none | k + 1 => l[k]?
def Qee : Option Jj -> List Jj -> Bool
 | _, [] => true
 | o, x :: r => if decide (x.id < 1) || (decide (x.id > 255) || ((match o with | some q => decide (x.id <= q.id) | none => false) || ((x.kind != 1) && (x.kind != 2)))) then false else Qee (some x) r
def Qr6 (all : List Jj) (x : Jj) : Bool := decide (x.txg > 16777215) || (decide (x.key < 0) || (decide (x.key >= 8) || (!(Qgv x.root) || (!(Qme x.dead) || !(Qqk all x)))))
def Qdu (all : List Jj) : List Jj -> Bool
 | [] => true
 | x :: r => if Qr6 all x then false else Qdu all r
def Qbw (ls : List Jj) : Bool := if decide ((ls.length : Int) > 16) then false else if Qee none ls then Qdu ls ls else false
structure Ji where
 set : Int
 obj : Int
 index : Int
 kind : Int
 links : Int
 size : Int
 n : Nat
 laid : Kh
 deriving DecidableEq
def Jc (c : Ji) (dv : V) : List V := .int .i64 c.set :: .int .i64 c.obj :: .int .i64 c.index :: .int .u8 c.kind :: .int .i64 c.links :: .int .i64 c.size :: dv :: .int .i64 c.laid.at_ :: .int .u32 c.laid.birth :: .int .u32 c.laid.iv :: .int .u32 c.laid.tag :: [.int .u32 c.laid.sum]
def Qdh (c : Ji) : Bool :=
 if decide (c.obj < 0) || (decide (c.obj >= 16) || (decide (c.index < 0) || decide (c.index > 15))) then false
 else if c.index == 15 then
  (decide (c.kind <= 7) && (decide ((if c.size < c.links then c.size else c.links) >= 0) && (decide (c.links <= 255) && decide (c.size <= 3840)))) && (((c.n : Int) == 0) && (decide (c.laid = Qek) && (decide (c.kind > 0) || ((c.kind == 0) && ((c.links == 0) && (c.size == 0))))))
 else ((c.kind == 0) && ((c.links == 0) && (c.size == 0))) && ((((c.n : Int) == 0) || ((c.n : Int) == 256)) && Qgv c.laid)
def Qjs (a b : Ji) : Int := Qki [Qag a.set b.set, Qag a.obj b.obj, Qag a.index b.index]
def Xs (many : Int) (k : List UInt8) : Bool := decide ((k.length : Int) > 0) && (((k.length : Int) != many) || ((many == 24) && decide (k = List.replicate 24 0)))
def Qcg (l : List (List UInt8)) (many : Int) : Bool := ((l.length : Int) == 8) && !(l.any (Xs many))
def Qh4 : List V -> List (List UInt8) -> Prop
 | cs, [] => cs = []
 | cs, x :: r => ∃ v d, cs = v :: d /\ Q1 v x /\ Qh4 d r
def Qjc (v : V) (l : List (List UInt8)) : Prop := ∃ cs, Qh4 cs l /\ Zn 1 v cs l.length
def J1 {α : Type} (p : α -> Bool) : Nat -> List α -> Int
 | _, [] => -1
 | i, x :: r => if p x then (i : Int) else J1 p (i + 1) r
def Qad (l : List UInt8) : Bool := l.length == 256 && l.all (fun b => b <= 2) && ((l.take 12).count 1 == 12)
def Qen (space : List UInt8) (i : Nat) : Int := (((space.getD i 0).toNat : Nat) : Int)
def Qdv (d : Int) (tab : Bool) (epoch count : Int) : Bool := !((d != 0) || (!tab || (decide (epoch < 1) || (decide (epoch > 65535) || decide (count > 65535)))))
def J7 (nid ng : Int) (x : Jj) : Bool := decide (x.id >= nid) || decide (x.guid >= ng)
structure Qka where
 epoch : Int
 count : Int
 gen : Int
 root : Kh
 own : List Int
 lines : List Jj
 keys : List (List UInt8)
 loaded : List (List UInt8)
 changes : List Ji
 logged : Int
 nextId : Int
 nextGuid : Int
def ChangesC : List V -> List Ji -> Prop
 | cs, [] => cs = []
 | cs, c :: r => ∃ dv d, cs = Jc c dv ++ d /\ Qgn dv c.n /\ ChangesC d r
def Qdk (v : V) (ls : List Ji) : Prop := ∃ cs, ChangesC cs ls /\ Zn 12 v cs ls.length
def Q3p (bv wv sv mv lv kv ov cv : V) (p : Qka) : List V := bv :: wv :: sv :: .int .u32 p.epoch :: .int .u32 p.count :: .int .u32 p.gen :: .int .i64 p.root.at_ :: .int .u32 p.root.birth :: .int .u32 p.root.iv :: .int .u32 p.root.tag :: .int .u32 p.root.sum :: mv :: lv :: kv :: ov :: cv :: .int .i64 p.logged :: .int .i64 p.nextId :: [.int .u32 p.nextGuid]
def Qgq (sp : Nat -> Int) : Option Int -> List Int -> Bool
 | _, [] => true
 | o, a :: r => if decide (a < 12) || (decide (a >= 256) || ((match o with | some q => decide (a <= q) | none => false) || (sp a.toNat != 1))) then false else Qgq sp (some a) r
def Qos (lines : List Jj) : Option Ji -> List Ji -> Bool
 | _, [] => true
 | o, c :: r => if (match Bl lines c.set with | none => true | some l => l.kind != 1) || (!(Qdh c) || (match o with | some q => decide (Qjs q c >= 0) | none => false)) then false else Qos lines (some c) r
def Qq9 (d : Int) (tab : Bool) (p : Qka) : Bool := (!(Qdv d tab p.epoch p.count)) || (decide (p.gen > 16777215) || (!(Qgv p.root) || (decide (p.root = Qek) != (p.gen == 0))))
def Qxx (p : Qka) : Bool := (!(Qbw p.lines)) || ((!(Qcg p.keys 24)) || ((!(Qcg p.loaded 16)) || (decide (p.logged < 0) || (decide (p.logged > 8) || (decide (p.nextId < 1) || decide (p.nextId > 256))))))
def Qxf (d : Int) (tab : Bool) (sp : Nat -> Int) (p : Qka) : Bool := if Qq9 d tab p then false else if Qgq sp none p.own then (if Qxx p then false else if Qos p.lines none p.changes then !(p.lines.any (J7 p.nextId p.nextGuid)) else false) else false
theorem Qcw {esz n : Nat} {v : V} {cells : List V} (h : Zn esz v cells n) : v.scalar = true := by
 obtain ⟨_, ⟨rfl, _⟩ | ⟨f, rfl⟩⟩ := h <;> rfl
theorem Qmm {g : Get} {l : Jj} {dv : V} (hd : Qd4 dv l.dead) : frz g depth (.agg (Ky l dv)) = some (.agg (Ky l dv)) := by
 have := hd.frz (g := g) 10
 show Option.map V.agg (Zb (frz g 11) (Ky l dv)) = _
 have e : Zb (frz g 11) (Ky l dv) = some (Ky l dv) := by
  simp only [Ky]
  repeat' (first | refine Qt rfl ?_ | refine Qt this ?_ | rfl)
 rw [e]; rfl
theorem LinesC.len : ∀ {ls : List Jj} {cs : List V}, LinesC cs ls -> cs.length = ls.length * 13
 | [], cs, h => by
   have : cs = [] := h
   subst this; rfl
 | x :: rs, cs, h => by
   obtain ⟨dv, d, rfl, h1, h2⟩ := h
   have := h2.len
   simp only [Zky, Zj9, Zlg, Ky]; omega
theorem LinesC.at_ : ∀ {ls : List Jj} {cs : List V} {i : Nat} {l : Jj}, LinesC cs ls -> ls[i]? = some l -> ∃ dv, (cs.drop (i * 13)).take 13 = Ky l dv /\ Qd4 dv l.dead
 | [], cs, i, r, h, hi => by simp at hi
 | x :: rs, cs, 0, r, h, hi => by
   obtain ⟨dv, d, rfl, h1, h2⟩ := h
   simp only [List.getElem?_cons_zero, Zmk] at hi
   subst hi
   exact ⟨dv, by rfl, h1⟩
 | x :: rs, cs, i + 1, r, h, hi => by
   obtain ⟨dv, d, rfl, h1, h2⟩ := h
   simp only [List.getElem?_cons_succ] at hi
   rw [show (i + 1) * 13 = (Ky x dv).length + i * 13 by simp [Ky]; omega, <- Zkx, List.drop_left]
   exact LinesC.at_ h2 hi
theorem Qf6 (c : Nat -> Int) : ∀ (n m i j : Nat), j - i <= n -> j - i <= m -> Qgm c n i j = Qgm c m i j
 | 0, 0, i, j, h, h2 => rfl
 | 0, m + 1, i, j, h, h2 => by simp only [Qgm]; rw [if_neg (by omega)]
 | n + 1, 0, i, j, h, h2 => by simp only [Qgm]; rw [if_neg (by omega)]
 | n + 1, m + 1, i, j, h, h2 => by
   simp only [Qgm]
   by_cases h1 : i < j
   . rw [if_pos h1, if_pos h1, Qf6 c n m _ _ (by omega) (by omega), Qf6 c n m i _ (by omega) (by omega)]
   . rw [if_neg h1, if_neg h1]
theorem Q3e {c : Nat -> Int} {i j : Nat} (h : i < j) (h2 : decide (c ((i + j) / 2) < 0) = true) : Qgm c (j - i) i j = Qgm c (j - ((i + j) / 2 + 1)) ((i + j) / 2 + 1) j := by
 obtain ⟨m, hm⟩ : ∃ m, j - i = m + 1 := ⟨j - i - 1, by omega⟩
 rw [hm]; simp only [Qgm]
 rw [if_pos h, if_pos h2]
 exact Qf6 c _ _ _ _ (by omega) (by omega)
theorem Q46 {c : Nat -> Int} {i j : Nat} (h : i < j) (h2 : decide (c ((i + j) / 2) < 0) = false) : Qgm c (j - i) i j = Qgm c ((i + j) / 2 - i) i ((i + j) / 2) := by
 obtain ⟨m, hm⟩ : ∃ m, j - i = m + 1 := ⟨j - i - 1, by omega⟩
 rw [hm]; simp only [Qgm]
 rw [if_pos h, if_neg (by simp only [h2]; decide)]
 exact Qf6 c _ _ _ _ (by omega) (by omega)
theorem Q4g (n : Nat) : Qc2 .shr .u64 (n : Int) 1 = some (.int .u64 ((n / 2 : Nat) : Int)) := by
 have e : min (1 : Int).toNat (IntKind.u64).bits = 1 := rfl
 have e2 : (n : Int).fdiv (2 ^ 1) = ((n / 2 : Nat) : Int) := by
  rw [Int.fdiv_eq_ediv_of_nonneg _ (by decide)]; omega
 simp only [Qc2, e, e2]
 rw [if_neg (by omega)]
theorem Qjb {ls : List Jj} {id : Int} {i : Nat} (h : Qcz ls id = some i) : i < ls.length := by
 unfold Qcz at h
 split at h
 . rename_i hb
   cases h
   simp only [Qjr, Zki] at hb
   exact of_decide_eq_true hb.1
 . cases h
theorem LinesC.cells {ls : List Jj} {cs : List V} {i : Nat} (h : LinesC cs ls) (hi : i < ls.length) :
 cs[i * 13]? = some (.int .i64 ls[i].id) /\ cs[i * 13 + 1]? = some (.int .u8 ls[i].kind) /\ cs[i * 13 + 4]? = some (.int .u32 ls[i].txg) /\ cs[i * 13 + 6]? = some (.int .i64 ls[i].key) := by
 obtain ⟨dv, h1, h2⟩ := h.at_ (Zjr hi)
 have key : ∀ k, k < 13 -> cs[i * 13 + k]? = (Ky ls[i] dv)[k]? := fun k hk => by
  rw [<- h1, Zj4, if_pos hk, Zll]
 exact ⟨key 0 (by decide), key 1 (by decide), key 4 (by decide), key 6 (by decide)⟩
theorem Qqc (l : List Kh) : (Qc8 l).length = l.length * 5 := by
 induction l with
 | nil => rfl
 | cons x r ih =>
   have e : Qc8 (x :: r) = x.cells ++ Qc8 r := rfl
   rw [e, Zky, ih, Zj9]
   have : x.cells.length = 5 := rfl
   omega
theorem Qvt : ∀ (l : List Kh) (i : Nat) (h : i < l.length), ((Qc8 l).drop (i * 5)).take 5 = l[i].cells
 | x :: r, 0, h => by rfl
 | x :: r, i + 1, h => by
   have e : Qc8 (x :: r) = x.cells ++ Qc8 r := rfl
   have e2 : (i + 1) * 5 = x.cells.length + i * 5 := by
    have : x.cells.length = 5 := rfl
    omega
   rw [e, e2, <- Zkx, List.drop_left]
   exact Qvt r i (by simpa using h)
theorem Kt (b : Bool) : (okE b != 0) = !b := by cases b <;> rfl
theorem Q4b (b : Bool) : (okE b == 0) = b := by cases b <;> rfl
theorem Qb2 {g : Get} {c : Ji} {dv : V} (hd : Qgn dv c.n) : frz g depth (.agg (Jc c dv)) = some (.agg (Jc c dv)) := by
 obtain ⟨cells, hd⟩ := hd
 have := Zn.frz (g := g) hd 10
 show Option.map V.agg (Zb (frz g 11) (Jc c dv)) = _
 have e : Zb (frz g 11) (Jc c dv) = some (Jc c dv) := by
  simp only [Jc]
  repeat' (first | refine Qt rfl ?_ | refine Qt this ?_ | rfl)
 rw [e]; rfl
theorem Qh4.len : ∀ {l : List (List UInt8)} {cs : List V}, Qh4 cs l -> cs.length = l.length
 | [], cs, h => by
   have : cs = [] := h
   subst this; rfl
 | x :: r, cs, h => by
   obtain ⟨v, d, rfl, h1, h2⟩ := h
   simp only [Zj9, h2.len]
theorem Qh4.at_ : ∀ {l : List (List UInt8)} {cs : List V} {i : Nat}, Qh4 cs l -> (h : i < l.length) -> ∃ v, cs[i]? = some v /\ Q1 v l[i]
 | x :: r, cs, 0, h, hi => by
   obtain ⟨v, d, rfl, h1, h2⟩ := h
   exact ⟨v, rfl, h1⟩
 | x :: r, cs, i + 1, h, hi => by
   obtain ⟨v, d, rfl, h1, h2⟩ := h
   obtain ⟨w, h3, h4⟩ := h2.at_ (i := i) (by simpa using hi)
   exact ⟨w, by simpa using h3, h4⟩
theorem Qkj {α : Type} (p : α -> Bool) : ∀ (l : List α) (i : Nat), (J1 p i l >= 0) ↔ l.any p = true
 | [], i => by simp [J1]
 | x :: r, i => by
   have e : J1 p i (x :: r) = if p x = true then (i : Int) else J1 p (i + 1) r := rfl
   by_cases h : p x = true
   . rw [e, if_pos h, List.any_cons, h]
     simp
   . have h' : p x = false := by simpa using h
     rw [e, if_neg h, List.any_cons, h', Zls]; exact Qkj p r (i + 1)
theorem Qkm {α : Type} (p : α -> Bool) (l : List α) (i : Nat) : decide (J1 p i l >= 0) = l.any p := by
 rw [Bool.eq_iff_iff, decide_eq_true_eq]; exact Qkj p l i
theorem le2 (b : UInt8) : ((b.toNat : Int) <= 2) ↔ (b <= 2) := by rw [UInt8.le_iff_toNat_le]; simp; omega
theorem okE_if (b : Bool) : (if b = true then (0 : Int) else 8) = okE b := rfl
theorem Qv6 {F : AM.Frame} (hw : Zo (fun f _ => Nat.ble 1 f) F = true) {n : Nat} (hn : 1 <= n) : Zo (fun f _ => Nat.ble n f) F = true := Qfk (Qm8 hn) F hw
theorem pop3 {F G : AM.Frame} {v : V} (hv : v.refs (fun f _ => Nat.ble 3 f) = false) (hw : Zo (fun f _ => Nat.ble 1 f) F = true) : By 3 v [F, [], [], G] = [F, [], []] := by
 refine Qaf (H := [F, [], []]) (G := [G]) hv ?_
 show (Zo _ F && true) = true
 rw [Qv6 hw (by simp)]; rfl
theorem pop2 {F G : AM.Frame} {v : V} (hv : v.refs (fun f _ => Nat.ble 2 f) = false) (hw : Zo (fun f _ => Nat.ble 1 f) F = true) : By 2 v [F, [], G] = [F, []] := by
 refine Qaf (H := [F, []]) (G := [G]) hv ?_
 show (Zo _ F && true) = true
 rw [Qv6 hw (by simp)]; rfl
theorem pop1 {F G : AM.Frame} {v : V} (hv : v.refs (fun f _ => Nat.ble 1 f) = false) (hw : Zo (fun f _ => Nat.ble 1 f) F = true) : By 1 v [F, G] = [F] := by
 refine Qaf (H := [F]) (G := [G]) hv ?_
 show (Zo _ F && true) = true
 rw [Qv6 hw (by simp)]; rfl
theorem ChangesC.len : ∀ {ls : List Ji} {cs : List V}, ChangesC cs ls -> cs.length = ls.length * 12
 | [], cs, h => by
   have : cs = [] := h
   subst this; rfl
 | x :: rs, cs, h => by
   obtain ⟨dv, d, rfl, h1, h2⟩ := h
   have := h2.len
   simp only [Zky, Zj9, Zlg, Jc]; omega
theorem ChangesC.at_ : ∀ {ls : List Ji} {cs : List V} {i : Nat} {l : Ji}, ChangesC cs ls -> ls[i]? = some l -> ∃ dv, (cs.drop (i * 12)).take 12 = Jc l dv /\ Qgn dv l.n
 | [], cs, i, r, h, hi => by simp at hi
 | x :: rs, cs, 0, r, h, hi => by
   obtain ⟨dv, d, rfl, h1, h2⟩ := h
   simp only [List.getElem?_cons_zero, Zmk] at hi
   subst hi
   exact ⟨dv, by rfl, h1⟩
 | x :: rs, cs, i + 1, r, h, hi => by
   obtain ⟨dv, d, rfl, h1, h2⟩ := h
   simp only [List.getElem?_cons_succ] at hi
   rw [show (i + 1) * 12 = (Jc x dv).length + i * 12 by simp [Jc]; omega, <- Zkx, List.drop_left]
   exact ChangesC.at_ h2 hi
def Qm7 (c : Ji) (s o i : Int) : Int := Qki [Qag c.set s, Qag c.obj o, Qag c.index i]
def cCh (ls : List Ji) (s o x : Int) (i : Nat) : Int := match ls[i]? with
 | some c => Qm7 c s o x
 | none => 0
end Go.AM
end
section
namespace Go.AM.BM
def Qem : V -> Option Int
 | .int .i64 a => some a
 | _ => none
def Qk3 : V -> Option Int
 | .int .u32 a => some a
 | _ => none
def u8D : V -> Option Int
 | .int .u8 a => some a
 | _ => none
def Q3q : V -> UInt8
 | .int _ (.ofNat n) => UInt8.ofNat n
 | _ => 0
def Qwn (v : V) : Option (List UInt8) := match Qj0 v with
 | some c => if Nat.ble c.length 4096 then some (c.map Q3q) else none
 | none => none
def lenD : V -> Option Nat
 | .nS => some 0
 | .iS c n _ => if Nat.beq c.length n && Nat.ble n 4096 then some n else none
 | _ => none
def low2 : V -> Bool
 | .int .u8 (.ofNat n) => Nat.ble n 2
 | _ => false
def is1 : V -> Bool
 | .int .u8 (.ofNat n) => Nat.beq n 1
 | _ => false
def byteI : V -> Int
 | .int _ n => n
 | _ => 0
def Qwp : V -> Option (List V × Bool)
 | .nS => some ([], false)
 | .iS c n _ => if Nat.beq n 256 && (Nat.beq c.length 256 && (c.all low2 && (c.take 12).all is1)) then some (c, true) else none
 | _ => none
def spV (c : List V) (i : Nat) : Int := byteI (c.getD i .bad)
def slD {α : Type} (f : List V -> Option (List α)) : V -> Option (List α)
 | .nS => some []
 | .iS c n _ => (match f c with
   | some l => if Nat.beq l.length n && Nat.ble n 900 then some l else none
   | none => none)
 | _ => none
def Qy2 : List V -> Option (List Int)
 | [] => some []
 | v :: r => (Qem v).bind fun a => (Qy2 r).bind fun l => some (a :: l)
def Qp2 : List V -> Option (List (List UInt8))
 | [] => some []
 | v :: r => (Qwn v).bind fun a => (Qp2 r).bind fun l => some (a :: l)
def ptrD (a b c d e : V) : Option Kh := (Qem a).bind fun a => (Qk3 b).bind fun b => (Qk3 c).bind fun c => (Qk3 d).bind fun d => (Qk3 e).bind fun e => some ⟨a, b, c, d, e⟩
def Qud : List V -> Option (List Kh)
 | [] => some []
 | a :: b :: c :: d :: e :: r => (ptrD a b c d e).bind fun p => (Qud r).bind fun l => some (p :: l)
 | _ => none
def Qmr : List V -> Option (List Jj)
 | [] => some []
 | a :: b :: c :: d :: e :: f :: g :: h :: i :: j :: k :: l :: m :: r => (Qem a).bind fun a => (u8D b).bind fun b => (Qem c).bind fun c => (Qem d).bind fun d => (Qk3 e).bind fun e => (Qk3 f).bind fun f => (Qem g).bind fun g => (ptrD h i j k l).bind fun p => (slD Qud m).bind fun q => (Qmr r).bind fun l => some (⟨a, b, c, d, e, f, g, p, q⟩ :: l)
 | _ => none
def Qdi : List V -> Option (List Ji)
 | [] => some []
 | a :: b :: c :: d :: e :: f :: g :: h :: i :: j :: k :: l :: r => (Qem a).bind fun a => (Qem b).bind fun b => (Qem c).bind fun c => (u8D d).bind fun d => (Qem e).bind fun e => (Qem f).bind fun f => (lenD g).bind fun g => (ptrD h i j k l).bind fun p => (Qdi r).bind fun l => some (⟨a, b, c, d, e, f, g, p⟩ :: l)
 | _ => none
def isI : V -> Bool
 | .nS => true
 | .iS _ _ _ => true
 | _ => false
def Q2w : List V -> Option Qka
 | [_, _, _, e, c, g, ra, rb, rc, rd, re, mv, lv, kv, ov, cv, lg, ni, ng] => (Qk3 e).bind fun e => (Qk3 c).bind fun c => (Qk3 g).bind fun g => (ptrD ra rb rc rd re).bind fun p => (slD Qy2 mv).bind fun m => (slD Qmr lv).bind fun ls => (slD Qp2 kv).bind fun ks => (slD Qp2 ov).bind fun os => (slD Qdi cv).bind fun cs => (Qem lg).bind fun lg => (Qem ni).bind fun ni => (Qk3 ng).bind fun ng => some ⟨e, c, g, p, m, ls, ks, os, cs, lg, ni, ng⟩
 | _ => none
def kTxg : List V -> Option V
 | [.agg (bv :: wv :: sv :: r)] => if isI bv && isI wv then (match Qod [.agg [bv, wv]] with
   | some (.int .i64 d) => (Qwp sv).bind fun t => (Q2w (bv :: wv :: sv :: r)).bind fun p => some (.int .i64 (okE (Qxf d t.2 (spV t.1) p)))
   | _ => none) else none
 | _ => none
end Go.AM.BM
end
section
namespace Go.AM.BM
def Qy0 (f : FuncId) : List V -> Option V
 | [v, .agg [s, o, x], .func (.func g) [] []] => if Nat.beq g f then (slD Qdi v).bind fun ls => (Qem s).bind fun s => (Qem o).bind fun o => (Qem x).bind fun x => some (.tuple [.int .i64 (Int.ofNat (bs (cCh ls s o x) ls.length)), .bool (Qjr (cCh ls s o x) ls.length)]) else none
 | _ => none
end Go.AM.BM
end
section
namespace Go.AM
variable {P : Program}
theorem Qf8 {w : World} {ts : Array TypeId} {t ty e T : TypeId} {n b o ld dc ls k : Nat} {src : Value} {vs : List Value} {cur : Array Value} (ht : ts[0]? = some t) (hu : P.underlying t = some (.slice e)) (hn : sz P e = some n)
 (hb : w.heap[b]? = some (.cells cur T (0, 0))) (hls : ∀ w', (Builtin.lenOf src).run P w' = .ok ls w') (hk : min ls ld = k) (hsrc : (Builtin.firstCells n k src).run P w = .ok ⟨vs⟩ w) (hfit : o + vs.length <= cur.size) (h1 : ∀ v ∈ vs, v.oneCell' = true) :
 (Builtin.copy_ ts ty #[.slice (some ⟨b, o, none⟩) ld dc, src]).run P w = .ok (goInt k) (w.setRow b ⟨splice cur.toList o vs⟩) := by
 have hst := run_storeCells_at P b o T vs 0 cur w hb (by simp only [Zl0]; omega) h1
 simp only [Zl0] at hst
 subst hk
 simp only [Builtin.copy_, ht, Qsr, Qrq, Zmm, Qm hu, Zml, hls, Jh hn, Nat.min_eq_min, hsrc, hst, Zmn]
 rfl
theorem Quy (w : World) (c1 c2 : Array Value) (T : TypeId) (h : Array Obj) : ({ w with heap := h.push (.cells c1 T) } : World).setRow h.size c2 = { w with heap := h.push (.cells c2 T) } := by
 simp only [World.setRow]
 congr 1
 apply Array.ext_getElem?
 intro i
 simp only [Array.getElem?_modify, Array.getElem?_push]
 split
 . subst_vars; simp
 . split
   . exact absurd (by assumption) (fun e => by simp_all)
   . rfl
theorem Qdl {w w' : World} {b off : Nat} {vs : List Value} (e : w'.heap[b]? = w.heap[b]?) (h : Qc3 w b off vs) : Qc3 w' b off vs := by
 intro i v hv
 have := h i v hv
 simp only [World.cell?, e] at this ⊢
 exact this
theorem Qyk {w : World} {b : Nat} {cur : Array Value} {T : TypeId} {z : Nat × Nat} {vs rest : List Value} (hb : w.heap[b]? = some (.cells cur T z)) (hc : cur.toList = vs ++ rest) : Qc3 w b 0 vs := by
 intro i v hv
 have : cur[i]? = some v := by
  rw [<- Zk4, hc, Zk0]
  . exact hv
  . exact (Zk2.1 hv).1
 simp [World.cell?, hb, this]
theorem Qph {α : Type} (vs rest news : List α) (k e : Nat) (hk : k <= vs.length) (he : news.length = e) (hr : e <= rest.length) :
 splice (splice (vs ++ rest) (k + e) (vs.drop k)) k news = (vs.take k ++ news ++ vs.drop k) ++ rest.drop e := by
 unfold splice
 apply Zk9
 intro i
 simp only [List.getElem?_append, Zj4, Zll, Zky, Zl6, Zly]
 grind
theorem Qra {α : Type} (vs rest news : List α) (k : Nat) (hk : k = vs.length) : splice (vs ++ rest) k news = (vs ++ news) ++ rest.drop news.length := by
 subst hk
 unfold splice
 apply Zk9
 intro i
 simp only [List.getElem?_append, Zj4, Zll, Zky, Zl6, Zly]
 grind
theorem Qo5 {α : Type} (olds Z rest news tail : List α) (k e : Nat) (ho : olds.length = k) (he : news.length = e) (hZ : Z.length = e + tail.length) :
 splice (splice (olds ++ Z ++ rest) k news) (k + e) tail = (olds ++ news ++ tail) ++ rest := by
 unfold splice
 apply Zk9
 intro i
 simp only [List.getElem?_append, Zj4, Zll, Zky, Zl6, Zly]
 grind
end Go.AM
end
section
namespace Go.AM.BM
noncomputable def n64 (n : Nat) : V := .int .i64 (Int.ofNat n)
noncomputable def n32 (n : Nat) : V := .int .u32 (Int.ofNat n)
noncomputable def n8 (n : Nat) : V := .int .u8 (Int.ofNat n)
noncomputable def upT (k : Nat) (v : V) (l : List V) : List V := l.set k v
def Qim (f0 : FuncId) (g : Qbb) (K : FuncId -> Option Qbb) : FuncId -> Option Qbb := fun f => bif Nat.beq f f0 then some g else K f
abbrev KOk (P : Program) (K : FuncId -> Option Qbb) : Prop := ∀ f g, K f = some g -> Qf0 P f g
theorem Bd {P : Program} {f0 : FuncId} {g0 : Qbb} {K : FuncId -> Option Qbb} (h : Qf0 P f0 g0) (hK : KOk P K) : KOk P (Qim f0 g0 K) := by
 intro f g e
 simp only [Qim] at e
 cases hb : Nat.beq f f0
 . rw [hb] at e
   exact hK f g e
 . rw [hb] at e
   cases e
   rw [Zmb hb]
   exact h
abbrev Bm (P : Program) (f : FuncId) (L : List (List V × V)) : Prop := ∀ e ∈ L, Qk e.1 = true /\ Ans P f e.1 e.2
theorem Qn1 {P : Program} {f : FuncId} : Bm P f [] := fun _ h => by cases h
theorem Ys {P : Program} {f : FuncId} {a : List V} {y : V} {L : List (List V × V)} (hp : Qk a = true) (h : Ans P f a y) (hL : Bm P f L) : Bm P f ((a, y) :: L) := by
 intro e he
 cases he with
 | head => exact ⟨hp, h⟩
 | tail _ he => exact hL e he
theorem noK {P : Program} : KOk P fun _ => none := fun _ _ h => by cases h
end Go.AM.BM
end
section
namespace Go
def jf1 (P : Program) (f : FuncId) (fn : Func) (s : ChangeSpec) (c : OpenClaim) : Bool := c.wf (OpenSpec.ofChange s)
def jf2 (P : Program) (f : FuncId) (fn : Func) (s : ChangeSpec) (c : OpenClaim) : Bool := laidOutB P
def jf3 (P : Program) (f : FuncId) (fn : Func) (s : ChangeSpec) (c : OpenClaim) : Bool := mapsRowed P
def jf4 (P : Program) (f : FuncId) (fn : Func) (s : ChangeSpec) (c : OpenClaim) : Bool := fn.params.all (P.readableRec ·)
def jf5 (P : Program) (f : FuncId) (fn : Func) (s : ChangeSpec) (c : OpenClaim) : Bool := namedTie P c.named s.vars
def jf6 (P : Program) (f : FuncId) (fn : Func) (s : ChangeSpec) (c : OpenClaim) : Bool := (c.stops == [])
def jf7 (P : Program) (f : FuncId) (fn : Func) (s : ChangeSpec) (c : OpenClaim) : Bool := (P.stops == [])
def jf8 (P : Program) (f : FuncId) (fn : Func) (s : ChangeSpec) (c : OpenClaim) : Bool := (c.knobs == [])
def jf9 (P : Program) (f : FuncId) (fn : Func) (s : ChangeSpec) (c : OpenClaim) : Bool := (P.stopKnobs == [])
def jf10 (P : Program) (f : FuncId) (fn : Func) (s : ChangeSpec) (c : OpenClaim) : Bool := (c.inPlace == P.inPlace f)
def jf11 (P : Program) (f : FuncId) (fn : Func) (s : ChangeSpec) (c : OpenClaim) : Bool := (c.unfollowed == P.unfollowed f)
def jf12 (P : Program) (f : FuncId) (fn : Func) (s : ChangeSpec) (c : OpenClaim) : Bool := (c.recurses == P.recurses f)
def jf13 (P : Program) (f : FuncId) (fn : Func) (s : ChangeSpec) (c : OpenClaim) : Bool := (c.named == P.varsNamed f)
def jf14 (P : Program) (f : FuncId) (fn : Func) (s : ChangeSpec) (c : OpenClaim) : Bool := (c.maps == (fn.params.toList ++ s.plain.varTypes P).any (P.mapsRec ·))
def jf15 (P : Program) (f : FuncId) (fn : Func) (s : ChangeSpec) (c : OpenClaim) : Bool := (c.ifaces == (fn.params.toList ++ s.plain.varTypes P).any (P.ifacesRec ·))
def jf16 (P : Program) (f : FuncId) (fn : Func) (s : ChangeSpec) (c : OpenClaim) : Bool := (c.mapsOut == P.mapsAmong fn.resultTypes.toList)
def jf17 (P : Program) (f : FuncId) (fn : Func) (s : ChangeSpec) (c : OpenClaim) : Bool := (c.loops == (fn.params.toList ++ s.plain.varTypes P).any (P.loopsFrom ·))
def jf18 (P : Program) (f : FuncId) (fn : Func) (s : ChangeSpec) (c : OpenClaim) : Bool := (c.wideKeys == (fn.params.toList ++ s.plain.varTypes P ++ fn.resultTypes.toList).any (P.wideKeysFrom ·))
def jf19 (P : Program) (f : FuncId) (fn : Func) (s : ChangeSpec) (c : OpenClaim) : Bool := s.vars.all (P.varReadable ·)
def jf20 (P : Program) (f : FuncId) (fn : Func) (s : ChangeSpec) (c : OpenClaim) : Bool := fn.resultTypes.all (fun t => P.readableRec t && decide (t < P.types.size))
def jf21 (P : Program) (f : FuncId) (fn : Func) (s : ChangeSpec) (c : OpenClaim) : Bool := (c.ifacesOut == fn.resultTypes.toList.any (P.ifacesRec ·))
def jf22 (P : Program) (f : FuncId) (fn : Func) (s : ChangeSpec) (c : OpenClaim) : Bool := (c.loopsOut == fn.resultTypes.toList.any (P.loopsFrom ·))
def jf23 (P : Program) (f : FuncId) (fn : Func) (s : ChangeSpec) (c : OpenClaim) : Bool := (c.plainKeys == P.plainKeys)
def jf24 (P : Program) (f : FuncId) (fn : Func) (s : ChangeSpec) (c : OpenClaim) : Bool := c.shortTexts.isNone
def jf25 (P : Program) (f : FuncId) (fn : Func) (s : ChangeSpec) (c : OpenClaim) : Bool := P.stopsHeard
def jf26 (P : Program) (f : FuncId) (fn : Func) (s : ChangeSpec) (c : OpenClaim) : Bool := P.mayEnter
def jf27 (P : Program) (f : FuncId) (fn : Func) (s : ChangeSpec) (c : OpenClaim) : Bool := (c.lifted == P.liftsFinal)
def jf28 (P : Program) (f : FuncId) (fn : Func) (s : ChangeSpec) (c : OpenClaim) : Bool := (P.make == some c.make)
def jf29 (P : Program) (f : FuncId) (fn : Func) (s : ChangeSpec) (c : OpenClaim) : Bool := (c.kinds == (if c.domain.isEmpty then [] else fn.params.toList.map fun t => match P.underlying t with | some (.int k) => some k | _ => none))
def jf30 (P : Program) (f : FuncId) (fn : Func) (s : ChangeSpec) (c : OpenClaim) : Bool := (c.pinned == c.pinnedBy)
def jf31 (P : Program) (f : FuncId) (fn : Func) (s : ChangeSpec) (c : OpenClaim) : Bool := (c.veiled == (fn.params.toList ++ s.plain.varTypes P ++ fn.resultTypes.toList).any (P.veiledRec ·))
def jf32 (P : Program) (f : FuncId) (fn : Func) (s : ChangeSpec) (c : OpenClaim) : Bool := c.veiledFits P fn.params.toList (fn.params.toList ++ s.plain.varTypes P ++ fn.resultTypes.toList)
set_option linter.unusedVariables false in
theorem Q0w {P : Program} {f : FuncId} {fn : Func} {s : ChangeSpec} {c : OpenClaim} (h1 : jf1 P f fn s c = true) (h2 : jf2 P f fn s c = true) (h3 : jf3 P f fn s c = true) (h4 : jf4 P f fn s c = true) (h5 : jf5 P f fn s c = true) (h6 : jf6 P f fn s c = true) (h7 : jf7 P f fn s c = true) (h8 : jf8 P f fn s c = true) (h9 : jf9 P f fn s c = true) (h10 : jf10 P f fn s c = true) (h11 : jf11 P f fn s c = true) (h12 : jf12 P f fn s c = true) (h13 : jf13 P f fn s c = true) (h14 : jf14 P f fn s c = true) (h15 : jf15 P f fn s c = true) (h16 : jf16 P f fn s c = true) (h17 : jf17 P f fn s c = true) (h18 : jf18 P f fn s c = true) (h19 : jf19 P f fn s c = true) (h20 : jf20 P f fn s c = true) (h21 : jf21 P f fn s c = true) (h22 : jf22 P f fn s c = true) (h23 : jf23 P f fn s c = true) (h24 : jf24 P f fn s c = true) (h25 : jf25 P f fn s c = true) (h26 : jf26 P f fn s c = true) (h27 : jf27 P f fn s c = true) (h28 : jf28 P f fn s c = true) (h29 : jf29 P f fn s c = true) (h30 : jf30 P f fn s c = true) (h31 : jf31 P f fn s c = true) (h32 : jf32 P f fn s c = true) : joinedFacts P f fn s c = true := by
 unfold joinedFacts
 simp only [Bool.and_eq_true]
 refine ⟨⟨⟨⟨⟨⟨⟨⟨⟨⟨⟨⟨⟨⟨⟨⟨⟨⟨⟨⟨⟨⟨⟨⟨⟨⟨⟨⟨⟨⟨⟨h1, h2⟩, h3⟩, h4⟩, h5⟩, h6⟩, h7⟩, h8⟩, h9⟩, h10⟩, h11⟩, h12⟩, h13⟩, h14⟩, h15⟩, h16⟩, h17⟩, h18⟩, h19⟩, h20⟩, h21⟩, h22⟩, h23⟩, h24⟩, h25⟩, h26⟩, h27⟩, h28⟩, h29⟩, h30⟩, h31⟩, h32⟩
end Go
end
