/- This file holds in one the texts DK, DL, DK2, EP, DK3, DK4, DZ0, Bx37, Jf; each says at its head what it proves. -/
import Derived.Test.YtafhcdagifopeaaGreatDoorT13
import Derived.Test.YtafhcdagifopeaaGreatDoorT22
import Derived.Test.YtafhcdagifopeaaGreatDoorT24
import Derived.Test.YtafhcdagifopeaaGreatDoorT26
import Derived.Test.YtafhcdagifopeaaGreatDoorT27
import Derived.OwnWalk
import Derived.WalkKit
import Derived.Shelf.RegionOpenPlain
import Derived.Lib.Overlaps
import Derived.Laws.Externs
import Derived.JoinedOf
set_option linter.unusedSimpArgs false
set_option linter.unusedVariables false
section
namespace Go.AM.BM
def isNumB : V -> Bool
 | .int _ _ => true
 | _ => false
def Qyq (v : V) : Bool := match v with
 | .iS c n _ => Nat.beq n 256 && (Nat.beq c.length 256 && c.all isNumB)
 | _ => false
def Qoa : V -> List V
 | .iS c _ _ => c
 | _ => []
def Qcg : List V -> Bool
 | [] => true
 | .int .i64 a :: v :: r => decide (0 <= a) && decide (a < 256) && Qyq v && Qcg r
 | _ => false
def Qhn : V -> Option (List V × Nat)
 | .nS => some ([], 0)
 | .iS cs n _ => if Nat.beq cs.length (n * 2) && Nat.ble n 4096 && Qcg cs then some (cs, n) else none
 | _ => none
def Qin : V -> Option (List V)
 | .iS rv n _ => if Nat.beq n 256 && Nat.beq rv.length 256 && rv.all Qyq then some rv else none
 | _ => none
def newRow (fl : Bool) (v : V) : V := .iS (Qoa v) 256 fl
def Qc1 : List V -> List V
 | a :: v :: r => a :: newRow false v :: Qc1 r
 | l => l
def Qq0 (rv cs : List V) (n : Nat) : V := .agg [.iS (rv.map (newRow true)) 256 false, if n = 0 then .nS else .iS (Qc1 cs) n false]
def Qyp : List V -> Option V
 | [.agg [bv, wv]] => (match Qin bv, Qhn wv with
   | some rv, some (cs, n) => some (Qq0 rv cs n)
   | _, _ => none)
 | _ => none
def Qdz : List V -> List V -> List V
 | .int _ a :: v :: r, rv => Qdz r (rv.set a.toNat v)
 | _, rv => rv
def isFn : V -> Bool
 | .func (.func _) [] [] => true
 | .func (.func _) [] [.iptr _ _] => true
 | .func (.func _) [] [.bad] => true
 | _ => false
def isAll (all : FuncId) : V -> Bool
 | .func (.func f) [] [] => Nat.beq f all
 | _ => false
def Qzf (all : FuncId) : List V -> Option V
 | [.agg [bv, wv], sv] => if isFn sv then (match Qin bv, Qhn wv with
   | some rv, some (cs, n) => if isAll all sv || Nat.beq n 0 then some (Qq0 (Qdz cs rv) [] 0) else none
   | _, _ => none) else none
 | _ => none
def Qne : List V -> Option V
 | [.agg [.nS, .nS]] => some (.int .i64 8)
 | [.agg [bv, wv]] => (match Qin bv, Qhn wv with
   | some _, some _ => some (.int .i64 0)
   | _, _ => none)
 | _ => none
def Q8d : List V := List.replicate 256 (.int .u8 0)
def kNew : List V -> Option V
 | [] => some (.agg [.iS (List.replicate 256 (.iS Q8d 256 true)) 256 false, .nS])
 | _ => none
/-! ### Sums -/
structure W4 where
 a : Nat
 b : Nat
 c : Nat
 d : Nat
noncomputable def Qbu (x y : Nat) : Nat := Nat.mod (Nat.add x y) (nat_lit 4294967296)
noncomputable def Qfj (x k : Nat) : Nat := Nat.lor (Nat.mod (Nat.shiftLeft x k) (nat_lit 4294967296)) (Nat.shiftRight x (Nat.sub (nat_lit 32) k))
noncomputable def Qgx {α : Type} (x : Nat) (k : Nat -> α) : α := Nat.rec (motive := fun _ => α) (k (nat_lit 0)) (fun m _ => k (Nat.succ m)) x
noncomputable def Qei (far near : Nat) (x : W4) : W4 :=
 Qgx (Qbu x.a x.b) fun a => Qgx (Qfj (Nat.xor x.d a) far) fun d => Qgx (Qbu x.c d) fun c => Qgx (Qfj (Nat.xor x.b c) near) fun b => ⟨a, b, c, d⟩
noncomputable def Qge (x : W4) : W4 := Qei (nat_lit 9) (nat_lit 6) (Qei (nat_lit 15) (nat_lit 11) x)
noncomputable def Kq (n : Nat) : W4 -> W4 := Nat.rec (motive := fun _ => W4 -> W4) (fun x => x) (fun _ ih x => ih (Qge x)) n
noncomputable def Qxz (v : V) : Nat := vInt v (fun _ m => Int.rec (motive := fun _ => Nat) (fun a => a) (fun _ => nat_lit 0) m) (nat_lit 0)
noncomputable def num4 (w x y z : V) : Nat := Nat.add (Qxz w) (Nat.mul (nat_lit 256) (Nat.add (Qxz x) (Nat.mul (nat_lit 256) (Nat.add (Qxz y) (Nat.mul (nat_lit 256) (Qxz z))))))
noncomputable def Qid (n : Nat) : List V -> W4 -> W4 := Nat.rec (motive := fun _ => List V -> W4 -> W4) (fun _ x => x) (fun _ ih l x => match l with
 | a :: b :: c :: d :: e :: f :: g :: h :: r => Qgx (Nat.xor x.a (num4 a b c d)) fun p => Qgx (Nat.xor x.c (num4 e f g h)) fun q => ih r (Kq (nat_lit 4) ⟨p, x.b, q, x.d⟩)
 | _ => x) n
noncomputable def pad8 (l : List V) : List V := l ++ .int .u8 1 :: List.replicate ((8 - (l.length + 1) % 8) % 8) (.int .u8 0)
noncomputable def Quz (l : List V) : W4 := match Qid (l.length + 1) (pad8 l) ⟨1, 2, 3, 4⟩ with
 | x => Kq (nat_lit 8) ⟨x.a, Nat.xor x.b l.length, x.c, x.d⟩
def Qk9 : V -> Bool
 | .int .u8 (.ofNat n) => Nat.blt n 256
 | _ => false
def Qjt : V -> Option (List V)
 | .nS => some []
 | .iS c n _ => if Nat.beq c.length n && (Nat.ble n 1048576 && c.all Qk9) then some c else none
 | _ => none
noncomputable def kSum : List V -> Option V
 | [x] => (match Qjt x with
   | some l => some (.int .u32 (Int.ofNat (Quz l).a))
   | none => none)
 | _ => none
noncomputable def maxV (l : List V) : Nat -> Nat := List.rec (motive := fun _ => Nat -> Nat) (fun m => m) (fun v _ ih m => Bool.rec (motive := fun _ => Nat) (ih m) (ih (Qxz v)) (Nat.ble (Nat.succ m) (Qxz v))) l
noncomputable def kMax : List V -> Option V
 | [x] => (match Qjt x with
   | some (v :: l) => some (.int .u8 (Int.ofNat (maxV l (Qxz v))))
   | _ => none)
 | _ => none
end Go.AM.BM
end
section
namespace Go.AM
def Qbk (L : List (Int × V)) (c : List V) (b : Nat) : List V := match L[b]? with
 | some (k, v) => c.set k.toNat v
 | none => c
def Z7 (L : List (Int × V)) (seen : List Nat) (rv : List V) : List V := seen.foldl (Qbk L) rv
theorem Qt1 (L : List (Int × V)) (seen : List Nat) (b : Nat) (rv : List V) (k : Int) (v : V) (h : L[b]? = some (k, v)) : Z7 L (seen ++ [b]) rv = (Z7 L seen rv).set k.toNat v := by
 simp only [Z7, List.foldl_append, Zjq, List.foldl_nil, Qbk, h]
theorem Qaj (L : List (Int × V)) : ∀ (seen : List Nat) (rv : List V), (Z7 L seen rv).length = rv.length
 | [], rv => rfl
 | b :: seen, rv => by
   show (Z7 L seen (Qbk L rv b)).length = _
   rw [Qaj L seen]
   unfold Qbk
   split
   . rw [Zla]
   . rfl
theorem Qaw (L : List (Int × V)) (i : Nat) : ∀ (seen : List Nat) (rv : List V), (∀ b ∈ seen, ∀ k v, L[b]? = some (k, v) -> k.toNat ≠ i) -> (Z7 L seen rv)[i]? = rv[i]?
 | [], rv, _ => rfl
 | b :: seen, rv, h => by
   show (Z7 L seen (Qbk L rv b))[i]? = _
   rw [Qaw L i seen _ (fun c hc => h c (Zjh _ hc))]
   unfold Qbk
   split
   . rename_i k v hk
     rw [Zkx, if_neg (h b (by simp) k v hk)]
   . rfl
theorem Qdu (L : List (Int × V)) (hd : ∀ (b c : Nat) (k : Int) (v w : V), L[b]? = some (k, v) -> L[c]? = some (k, w) -> b = c) (h0 : ∀ (b : Nat) (k : Int) (v : V), L[b]? = some (k, v) -> 0 <= k) {b : Nat} {k : Int} {v : V} (hL : L[b]? = some (k, v)) :
 ∀ (seen : List Nat) (rv : List V), b ∈ seen -> k.toNat < rv.length -> (Z7 L seen rv)[k.toNat]? = some v
 | [], _, h, _ => by cases h
 | c :: seen, rv, h, hi => by
   show (Z7 L seen (Qbk L rv c))[k.toNat]? = _
   by_cases hs : b ∈ seen
   . refine Qdu L hd h0 hL seen _ hs ?_
     unfold Qbk
     split
     . rw [Zla]; exact hi
     . exact hi
   . have hc : b = c := by
      rcases Zjf.1 h with h | h
      . exact h
      . exact absurd h hs
     subst hc
     rw [Qaw L]
     . simp only [Qbk, hL]
       rw [Zkx, if_pos rfl, if_pos hi]
     . intro c hcs k' v' hk' e
       have : k' = k := by have := h0 _ _ _ hL; have := h0 _ _ _ hk'; omega
       subst this
       exact hs (hd _ _ _ _ _ hL hk' ▸ hcs)
theorem Qxc (L : List (Int × V)) (hd : ∀ (b c : Nat) (k : Int) (v w : V), L[b]? = some (k, v) -> L[c]? = some (k, w) -> b = c) (h0 : ∀ (b : Nat) (k : Int) (v : V), L[b]? = some (k, v) -> 0 <= k) (seen : List Nat) (hall : ∀ b, b < L.length -> b ∈ seen) (rv : List V) (hk : ∀ (b : Nat) (k : Int) (v : V), L[b]? = some (k, v) -> k.toNat < rv.length) :
 Z7 L seen rv = Z7 L (List.range L.length) rv := by
 apply Zkb
 intro i
 by_cases h : ∃ (b : Nat) (k : Int) (v : V), L[b]? = some (k, v) /\ k.toNat = i
 . obtain ⟨b, k, v, hL, rfl⟩ := h
   have hb : b < L.length := (Zj3.1 hL).1
   rw [Qdu L hd h0 hL seen rv (hall b hb) (hk _ _ _ hL), Qdu L hd h0 hL _ rv (Zko.2 hb) (hk _ _ _ hL)]
 . have hm : ∀ s : List Nat, ∀ b ∈ s, ∀ k v, L[b]? = some (k, v) -> k.toNat ≠ i := fun s b _ k v hL e => h ⟨b, k, v, hL, e⟩
   rw [Qaw L i _ _ (hm _), Qaw L i _ _ (hm _)]
theorem Qqh (seen : List Nat) : ∀ (es : List (V × V)) (i : Nat) (x : (V × V) × Nat), x ∈ Yv seen es (List.range' i es.length) -> i <= x.2 /\ es[x.2 - i]? = some x.1 /\ x.2 ∉ seen
 | [], _, x, h => by cases h
 | e :: es, i, x, h => by
   simp only [Zja, Zjb, Yv] at h
   have next : x ∈ Yv seen es (List.range' (i + 1) es.length) -> i <= x.2 /\ (e :: es)[x.2 - i]? = some x.1 /\ x.2 ∉ seen := by
    intro h
    obtain ⟨h1, h2, h3⟩ := Qqh seen es (i + 1) x h
    refine ⟨by omega, ?_, h3⟩
    have e : x.2 - i = (x.2 - (i + 1)) + 1 := by omega
    rw [e]; exact h2
   split at h
   . exact next h
   . rename_i hc
     rcases Zjf.1 h with rfl | h
     . exact ⟨Zix _, by simp, by simpa using hc⟩
     . exact next h
theorem Qpq (seen : List Nat) : ∀ (es : List (V × V)) (i : Nat), Yv seen es (List.range' i es.length) = [] -> ∀ b, i <= b -> b < i + es.length -> b ∈ seen
 | [], _, _, b, h1, h2 => by simp at h2; omega
 | e :: es, i, h, b, h1, h2 => by
   simp only [Zja, Zjb, Yv] at h h2
   split at h
   . rename_i hc
     by_cases e : b = i
     . subst e; simpa using hc
     . exact Qpq seen es (i + 1) h b (by omega) (by omega)
   . cases h
theorem Qu2 (seen : List Nat) (c : Nat) : ∀ (es : List (V × V)) (bs : List Nat), (Yv (seen ++ [c]) es bs).length <= (Yv seen es bs).length
 | [], bs => by cases bs <;> simp [Yv]
 | e :: es, [] => by simp [Yv]
 | e :: es, b :: bs => by
   have := Qu2 seen c es bs
   simp only [Yv]
   split <;> split
   . exact this
   . simp only [Zja]; omega
   . rename_i h1 h2
     simp at h1 h2
     exact absurd h2 h1.1
   . simp only [Zja]; omega
theorem Qg8 (seen : List Nat) (x : (V × V) × Nat) : ∀ (es : List (V × V)) (bs : List Nat), x ∈ Yv seen es bs -> (Yv (seen ++ [x.2]) es bs).length < (Yv seen es bs).length
 | [], bs, h => by cases bs <;> simp [Yv] at h
 | e :: es, [], h => by simp [Yv] at h
 | e :: es, b :: bs, h => by
   have le := Qu2 seen x.2 es bs
   simp only [Yv] at h ⊢
   by_cases hb : seen.contains b = true
   . have hb2 : (seen ++ [x.2]).contains b = true := by simp at hb ⊢; exact .inl hb
     simp only [hb, hb2, if_true] at h ⊢
     exact Qg8 seen x es bs h
   . simp only [hb, Ziw, if_false] at h ⊢
     rcases Zjf.1 h with rfl | h
     . have : (seen ++ [b]).contains b = true := by simp
       simp only [this, if_true, Zja]
       simp only at le
       omega
     . have := Qg8 seen x es bs h
       split <;> simp only [Zja] <;> omega
theorem Qly (b : Nat) : ∀ (es : List (V × V)) (i : Nat), i <= b -> Qbe b es (List.range' i es.length) = es[b - i]?
 | [], i, h => by simp [Qbe]
 | e :: es, i, h => by
   simp only [Zja, Zjb, Qbe]
   split
   . rename_i q; subst q; simp
   . have q : b - i = (b - (i + 1)) + 1 := by omega
     rw [q, Qly b es (i + 1) (by omega)]; rfl
end Go.AM
end
section
namespace Go.AM.BM
def Qhv (n : Nat) : Nat -> List V
 | 0 => []
 | k + 1 => .int .u8 (.ofNat (Nat.mod n 256)) :: Qhv (Nat.div n 256) k
noncomputable def keyC (x : W4) : List V := Qhv x.a 4 ++ (Qhv x.b 4 ++ (Qhv x.c 4 ++ Qhv x.d 4))
noncomputable def kKey : List V -> Option V
 | [x] => (match Qjt x with
   | some l => some (.iS (keyC (Quz l)) 16 false)
   | none => none)
 | _ => none
end Go.AM.BM
end
section
namespace Go.AM
structure Ke where
 at_ : Int
 birth : Int
 iv : Int
 tag : Int
 sum : Int
 deriving DecidableEq
def Ke.cells (p : Ke) : List V := [.int .i64 p.at_, .int .u32 p.birth, .int .u32 p.iv, .int .u32 p.tag, .int .u32 p.sum]
def Qdp : Ke := ⟨0, 0, 0, 0, 0⟩
def Q2k (p : Ke) : Bool := decide (p.at_ < 12) || (decide (p.at_ >= 256) || (decide (p.birth < 1) || decide (p.birth > 16777215)))
def Qgp (p : Ke) : Bool := decide (p = Qdp) || !Q2k p
def okE (b : Bool) : Int := if b then 0 else 8
def B8 (a b : Int) : Int := if decide (a < b) then -1 else if decide (a > b) then 1 else 0
def Qkx : List Int -> Int
 | [] => 0
 | x :: r => if x != 0 then x else Qkx r
def Qgm (v : V) (n : Nat) : Prop := ∃ cells, Zo 1 v cells n
structure Jn where
 id : Int
 kind : Int
 owner : Int
 prev : Int
 txg : Int
 guid : Int
 key : Int
 root : Ke
 dead : List Ke
 deriving DecidableEq
def Qdb (l : List Ke) : List V := l.flatMap Ke.cells
def Ku (l : Jn) (dv : V) : List V := .int .i64 l.id :: .int .u8 l.kind :: .int .i64 l.owner :: .int .i64 l.prev :: .int .u32 l.txg :: .int .u32 l.guid :: .int .i64 l.key :: .int .i64 l.root.at_ :: .int .u32 l.root.birth :: .int .u32 l.root.iv :: .int .u32 l.root.tag :: .int .u32 l.root.sum :: [dv]
def Qdv (v : V) (l : List Ke) : Prop := Zo 5 v (Qdb l) l.length
def LinesC : List V -> List Jn -> Prop
 | cs, [] => cs = []
 | cs, l :: ls => ∃ dv d, cs = Ku l dv ++ d /\ Qdv dv l.dead /\ LinesC d ls
def Qgd (v : V) (ls : List Jn) : Prop := ∃ cs, LinesC cs ls /\ Zo 13 v cs ls.length
def Qgh (c : Nat -> Int) : Nat -> Nat -> Nat -> Nat
 | 0, i, _ => i
 | n + 1, i, j => if i < j then (if decide (c ((i + j) / 2) < 0) then Qgh c n ((i + j) / 2 + 1) j else Qgh c n i ((i + j) / 2)) else i
def bs (c : Nat -> Int) (n : Nat) : Nat := Qgh c n 0 n
def Qjo (c : Nat -> Int) (n : Nat) : Bool := decide (bs c n < n) && decide (c (bs c n) = 0)
def Bs (ls : List Jn) (id : Int) (i : Nat) : Int := match ls[i]? with
 | some l => B8 l.id id
 | none => 0
def Qco (ls : List Jn) (id : Int) : Option Nat := if Qjo (Bs ls id) ls.length then some (bs (Bs ls id) ls.length) else none
def Bf (ls : List Jn) (id : Int) : Option Jn := match Qco ls id with
 | some i => ls[i]?
 | none => none
def Qqf (ls : List Jn) (x : Jn) : Bool := match Bf ls x.owner with
 | none => false
 | some o => if (o.kind != 1) || ((x.kind == 1) && (x.owner != x.id)) then false else if x.prev == 0 then true else match Bf ls x.prev with
   | none => false
   | some p => if (p.kind != 2) || (p.key != x.key) then false else decide (p.txg < x.txg) || ((p.txg == x.txg) && (x.kind == 1))
def Qfx : Option Ke -> List Ke -> Bool
 | _, [] => true
 | o, p :: r => if decide (p = Qdp) || (!(Qgp p) || (match o with | some q => decide (B8 q.at_ p.at_ >= 0) | none => false)) then false else Qfx (some p) r
def Ql7 (l : List Ke) : Bool := if decide ((l.length : Int) > 240) then false else Qfx none l
def before {α : Type} (l : List α) (i : Nat) : Option α := match i with | 0 => none | k + 1 => l[k]?
def Qd0 : Option Jn -> List Jn -> Bool
 | _, [] => true
 | o, x :: r => if decide (x.id < 1) || (decide (x.id > 255) || ((match o with | some q => decide (x.id <= q.id) | none => false) || ((x.kind != 1) && (x.kind != 2)))) then false else Qd0 (some x) r
def Qqr (all : List Jn) (x : Jn) : Bool := decide (x.txg > 16777215) || (decide (x.key < 0) || (decide (x.key >= 8) || (!(Qgp x.root) || (!(Ql7 x.dead) || !(Qqf all x)))))
def Qea (all : List Jn) : List Jn -> Bool
 | [] => true
 | x :: r => if Qqr all x then false else Qea all r
def Qbl (ls : List Jn) : Bool := if decide ((ls.length : Int) > 16) then false else if Qd0 none ls then Qea ls ls else false
structure Ji where
 set : Int
 obj : Int
 index : Int
 kind : Int
 links : Int
 size : Int
 n : Nat
 laid : Ke
 deriving DecidableEq
def Jd (c : Ji) (dv : V) : List V := .int .i64 c.set :: .int .i64 c.obj :: .int .i64 c.index :: .int .u8 c.kind :: .int .i64 c.links :: .int .i64 c.size :: dv :: .int .i64 c.laid.at_ :: .int .u32 c.laid.birth :: .int .u32 c.laid.iv :: .int .u32 c.laid.tag :: [.int .u32 c.laid.sum]
def Qc3 (c : Ji) : Bool :=
 if decide (c.obj < 0) || (decide (c.obj >= 16) || (decide (c.index < 0) || decide (c.index > 15))) then false
 else if c.index == 15 then
  (decide (c.kind <= 7) && (decide ((if c.size < c.links then c.size else c.links) >= 0) && (decide (c.links <= 255) && decide (c.size <= 3840)))) && (((c.n : Int) == 0) && (decide (c.laid = Qdp) && (decide (c.kind > 0) || ((c.kind == 0) && ((c.links == 0) && (c.size == 0))))))
 else ((c.kind == 0) && ((c.links == 0) && (c.size == 0))) && ((((c.n : Int) == 0) || ((c.n : Int) == 256)) && Qgp c.laid)
def Qji (a b : Ji) : Int := Qkx [B8 a.set b.set, B8 a.obj b.obj, B8 a.index b.index]
def Xn (many : Int) (k : List UInt8) : Bool := decide ((k.length : Int) > 0) && (((k.length : Int) != many) || ((many == 24) && decide (k = List.replicate 24 0)))
def Qb9 (l : List (List UInt8)) (many : Int) : Bool := ((l.length : Int) == 8) && !(l.any (Xn many))
def Qic : List V -> List (List UInt8) -> Prop
 | cs, [] => cs = []
 | cs, x :: r => ∃ v d, cs = v :: d /\ Q1 v x /\ Qic d r
def Qi5 (v : V) (l : List (List UInt8)) : Prop := ∃ cs, Qic cs l /\ Zo 1 v cs l.length
def J0 {α : Type} (p : α -> Bool) : Nat -> List α -> Int
 | _, [] => -1
 | i, x :: r => if p x then (i : Int) else J0 p (i + 1) r
def B3 (l : List UInt8) : Bool := l.length == 256 && l.all (fun b => b <= 2) && ((l.take 12).count 1 == 12)
def Qeh (space : List UInt8) (i : Nat) : Int := (((space.getD i 0).toNat : Nat) : Int)
def Qdk (d : Int) (tab : Bool) (epoch count : Int) : Bool := !((d != 0) || (!tab || (decide (epoch < 1) || (decide (epoch > 65535) || decide (count > 65535)))))
def J5 (nid ng : Int) (x : Jn) : Bool := decide (x.id >= nid) || decide (x.guid >= ng)
structure Qj6 where
 epoch : Int
 count : Int
 gen : Int
 root : Ke
 own : List Int
 lines : List Jn
 keys : List (List UInt8)
 loaded : List (List UInt8)
 changes : List Ji
 logged : Int
 nextId : Int
 nextGuid : Int
def ChangesC : List V -> List Ji -> Prop
 | cs, [] => cs = []
 | cs, c :: r => ∃ dv d, cs = Jd c dv ++ d /\ Qgm dv c.n /\ ChangesC d r
def Qda (v : V) (ls : List Ji) : Prop := ∃ cs, ChangesC cs ls /\ Zo 12 v cs ls.length
def Q33 (bv wv sv mv lv kv ov cv : V) (p : Qj6) : List V := bv :: wv :: sv :: .int .u32 p.epoch :: .int .u32 p.count :: .int .u32 p.gen :: .int .i64 p.root.at_ :: .int .u32 p.root.birth :: .int .u32 p.root.iv :: .int .u32 p.root.tag :: .int .u32 p.root.sum :: mv :: lv :: kv :: ov :: cv :: .int .i64 p.logged :: .int .i64 p.nextId :: [.int .u32 p.nextGuid]
def Qgs (sp : Nat -> Int) : Option Int -> List Int -> Bool
 | _, [] => true
 | o, a :: r => if decide (a < 12) || (decide (a >= 256) || ((match o with | some q => decide (a <= q) | none => false) || (sp a.toNat != 1))) then false else Qgs sp (some a) r
def Qn3 (lines : List Jn) : Option Ji -> List Ji -> Bool
 | _, [] => true
 | o, c :: r => if (match Bf lines c.set with | none => true | some l => l.kind != 1) || (!(Qc3 c) || (match o with | some q => decide (Qji q c >= 0) | none => false)) then false else Qn3 lines (some c) r
def Qrn (d : Int) (tab : Bool) (p : Qj6) : Bool := (!(Qdk d tab p.epoch p.count)) || (decide (p.gen > 16777215) || (!(Qgp p.root) || (decide (p.root = Qdp) != (p.gen == 0))))
def Qwy (p : Qj6) : Bool := (!(Qbl p.lines)) || ((!(Qb9 p.keys 24)) || ((!(Qb9 p.loaded 16)) || (decide (p.logged < 0) || (decide (p.logged > 8) || (decide (p.nextId < 1) || decide (p.nextId > 256))))))
def Qw3 (d : Int) (tab : Bool) (sp : Nat -> Int) (p : Qj6) : Bool := if Qrn d tab p then false else if Qgs sp none p.own then (if Qwy p then false else if Qn3 p.lines none p.changes then !(p.lines.any (J5 p.nextId p.nextGuid)) else false) else false
theorem Qcq {esz n : Nat} {v : V} {cells : List V} (h : Zo esz v cells n) : v.scalar = true := by
 obtain ⟨_, ⟨rfl, _⟩ | ⟨f, rfl⟩⟩ := h <;> rfl
theorem Qmq {g : Get} {l : Jn} {dv : V} (hd : Qdv dv l.dead) : frz g depth (.agg (Ku l dv)) = some (.agg (Ku l dv)) := by
 have := hd.frz (g := g) 10
 show Option.map V.agg (Zc (frz g 11) (Ku l dv)) = _
 have e : Zc (frz g 11) (Ku l dv) = some (Ku l dv) := by
  simp only [Ku]
  repeat' (first | refine Qt rfl ?_ | refine Qt this ?_ | rfl)
 rw [e]; rfl
theorem LinesC.len : ∀ {ls : List Jn} {cs : List V}, LinesC cs ls -> cs.length = ls.length * 13
 | [], cs, h => by
   have : cs = [] := h
   subst this; rfl
 | x :: rs, cs, h => by
   obtain ⟨dv, d, rfl, h1, h2⟩ := h
   have := h2.len
   simp only [Zjz, Zja, Zki, Ku]; omega
theorem LinesC.at_ : ∀ {ls : List Jn} {cs : List V} {i : Nat} {l : Jn}, LinesC cs ls -> ls[i]? = some l -> ∃ dv, (cs.drop (i * 13)).take 13 = Ku l dv /\ Qdv dv l.dead
 | [], cs, i, r, h, hi => by simp at hi
 | x :: rs, cs, 0, r, h, hi => by
   obtain ⟨dv, d, rfl, h1, h2⟩ := h
   simp only [List.getElem?_cons_zero, Zlm] at hi
   subst hi
   exact ⟨dv, by rfl, h1⟩
 | x :: rs, cs, i + 1, r, h, hi => by
   obtain ⟨dv, d, rfl, h1, h2⟩ := h
   simp only [List.getElem?_cons_succ] at hi
   rw [show (i + 1) * 13 = (Ku x dv).length + i * 13 by simp [Ku]; omega, <- Zjy, List.drop_left]
   exact LinesC.at_ h2 hi
theorem Qgb (c : Nat -> Int) : ∀ (n m i j : Nat), j - i <= n -> j - i <= m -> Qgh c n i j = Qgh c m i j
 | 0, 0, i, j, h, h2 => rfl
 | 0, m + 1, i, j, h, h2 => by simp only [Qgh]; rw [if_neg (by omega)]
 | n + 1, 0, i, j, h, h2 => by simp only [Qgh]; rw [if_neg (by omega)]
 | n + 1, m + 1, i, j, h, h2 => by
   simp only [Qgh]
   by_cases h1 : i < j
   . rw [if_pos h1, if_pos h1, Qgb c n m _ _ (by omega) (by omega), Qgb c n m i _ (by omega) (by omega)]
   . rw [if_neg h1, if_neg h1]
theorem Q4l {c : Nat -> Int} {i j : Nat} (h : i < j) (h2 : decide (c ((i + j) / 2) < 0) = true) : Qgh c (j - i) i j = Qgh c (j - ((i + j) / 2 + 1)) ((i + j) / 2 + 1) j := by
 obtain ⟨m, hm⟩ : ∃ m, j - i = m + 1 := ⟨j - i - 1, by omega⟩
 rw [hm]; simp only [Qgh]
 rw [if_pos h, if_pos h2]
 exact Qgb c _ _ _ _ (by omega) (by omega)
theorem Q3g {c : Nat -> Int} {i j : Nat} (h : i < j) (h2 : decide (c ((i + j) / 2) < 0) = false) : Qgh c (j - i) i j = Qgh c ((i + j) / 2 - i) i ((i + j) / 2) := by
 obtain ⟨m, hm⟩ : ∃ m, j - i = m + 1 := ⟨j - i - 1, by omega⟩
 rw [hm]; simp only [Qgh]
 rw [if_pos h, if_neg (by simp only [h2]; decide)]
 exact Qgb c _ _ _ _ (by omega) (by omega)
theorem Q4h (n : Nat) : Qcr .shr .u64 (n : Int) 1 = some (.int .u64 ((n / 2 : Nat) : Int)) := by
 have e : min (1 : Int).toNat (IntKind.u64).bits = 1 := rfl
 have e2 : (n : Int).fdiv (2 ^ 1) = ((n / 2 : Nat) : Int) := by
  rw [Int.fdiv_eq_ediv_of_nonneg _ (by decide)]; omega
 simp only [Qcr, e, e2]
 rw [if_neg (by omega)]
theorem Qjb {ls : List Jn} {id : Int} {i : Nat} (h : Qco ls id = some i) : i < ls.length := by
 unfold Qco at h
 split at h
 . rename_i hb
   cases h
   simp only [Qjo, Zjj] at hb
   exact of_decide_eq_true hb.1
 . cases h
theorem LinesC.cells {ls : List Jn} {cs : List V} {i : Nat} (h : LinesC cs ls) (hi : i < ls.length) :
 cs[i * 13]? = some (.int .i64 ls[i].id) /\ cs[i * 13 + 1]? = some (.int .u8 ls[i].kind) /\ cs[i * 13 + 4]? = some (.int .u32 ls[i].txg) /\ cs[i * 13 + 6]? = some (.int .i64 ls[i].key) := by
 obtain ⟨dv, h1, h2⟩ := h.at_ (Zis hi)
 have key : ∀ k, k < 13 -> cs[i * 13 + k]? = (Ku ls[i] dv)[k]? := fun k hk => by
  rw [<- h1, Zi5, if_pos hk, Zkn]
 exact ⟨key 0 (by decide), key 1 (by decide), key 4 (by decide), key 6 (by decide)⟩
theorem Qpf (l : List Ke) : (Qdb l).length = l.length * 5 := by
 induction l with
 | nil => rfl
 | cons x r ih =>
   have e : Qdb (x :: r) = x.cells ++ Qdb r := rfl
   rw [e, Zjz, ih, Zja]
   have : x.cells.length = 5 := rfl
   omega
theorem Qt7 : ∀ (l : List Ke) (i : Nat) (h : i < l.length), ((Qdb l).drop (i * 5)).take 5 = l[i].cells
 | x :: r, 0, h => by rfl
 | x :: r, i + 1, h => by
   have e : Qdb (x :: r) = x.cells ++ Qdb r := rfl
   have e2 : (i + 1) * 5 = x.cells.length + i * 5 := by
    have : x.cells.length = 5 := rfl
    omega
   rw [e, e2, <- Zjy, List.drop_left]
   exact Qt7 r i (by simpa using h)
theorem Kt (b : Bool) : (okE b != 0) = !b := by cases b <;> rfl
theorem Q3h (b : Bool) : (okE b == 0) = b := by cases b <;> rfl
theorem Qbx {g : Get} {c : Ji} {dv : V} (hd : Qgm dv c.n) : frz g depth (.agg (Jd c dv)) = some (.agg (Jd c dv)) := by
 obtain ⟨cells, hd⟩ := hd
 have := Zo.frz (g := g) hd 10
 show Option.map V.agg (Zc (frz g 11) (Jd c dv)) = _
 have e : Zc (frz g 11) (Jd c dv) = some (Jd c dv) := by
  simp only [Jd]
  repeat' (first | refine Qt rfl ?_ | refine Qt this ?_ | rfl)
 rw [e]; rfl
theorem Qic.len : ∀ {l : List (List UInt8)} {cs : List V}, Qic cs l -> cs.length = l.length
 | [], cs, h => by
   have : cs = [] := h
   subst this; rfl
 | x :: r, cs, h => by
   obtain ⟨v, d, rfl, h1, h2⟩ := h
   simp only [Zja, h2.len]
theorem Qic.at_ : ∀ {l : List (List UInt8)} {cs : List V} {i : Nat}, Qic cs l -> (h : i < l.length) -> ∃ v, cs[i]? = some v /\ Q1 v l[i]
 | x :: r, cs, 0, h, hi => by
   obtain ⟨v, d, rfl, h1, h2⟩ := h
   exact ⟨v, rfl, h1⟩
 | x :: r, cs, i + 1, h, hi => by
   obtain ⟨v, d, rfl, h1, h2⟩ := h
   obtain ⟨w, h3, h4⟩ := h2.at_ (i := i) (by simpa using hi)
   exact ⟨w, by simpa using h3, h4⟩
theorem Qj2 {α : Type} (p : α -> Bool) : ∀ (l : List α) (i : Nat), (J0 p i l >= 0) ↔ l.any p = true
 | [], i => by simp [J0]
 | x :: r, i => by
   have e : J0 p i (x :: r) = if p x = true then (i : Int) else J0 p (i + 1) r := rfl
   by_cases h : p x = true
   . rw [e, if_pos h, List.any_cons, h]
     simp
   . have h' : p x = false := by simpa using h
     rw [e, if_neg h, List.any_cons, h', Zku]; exact Qj2 p r (i + 1)
theorem Qjz {α : Type} (p : α -> Bool) (l : List α) (i : Nat) : decide (J0 p i l >= 0) = l.any p := by
 rw [Bool.eq_iff_iff, decide_eq_true_eq]; exact Qj2 p l i
theorem le2 (b : UInt8) : ((b.toNat : Int) <= 2) ↔ (b <= 2) := by rw [UInt8.le_iff_toNat_le]; simp; omega
theorem okE_if (b : Bool) : (if b = true then (0 : Int) else 8) = okE b := rfl
theorem Qx9 {F : AM.Frame} (hw : Zn (fun f _ => Nat.ble 1 f) F = true) {n : Nat} (hn : 1 <= n) : Zn (fun f _ => Nat.ble n f) F = true := Qe1 (Ql3 hn) F hw
theorem pop3 {F G : AM.Frame} {v : V} (hv : v.refs (fun f _ => Nat.ble 3 f) = false) (hw : Zn (fun f _ => Nat.ble 1 f) F = true) : Bp 3 v [F, [], [], G] = [F, [], []] := by
 refine Qac (H := [F, [], []]) (G := [G]) hv ?_
 show (Zn _ F && true) = true
 rw [Qx9 hw (by simp)]; rfl
theorem pop2 {F G : AM.Frame} {v : V} (hv : v.refs (fun f _ => Nat.ble 2 f) = false) (hw : Zn (fun f _ => Nat.ble 1 f) F = true) : Bp 2 v [F, [], G] = [F, []] := by
 refine Qac (H := [F, []]) (G := [G]) hv ?_
 show (Zn _ F && true) = true
 rw [Qx9 hw (by simp)]; rfl
theorem pop1 {F G : AM.Frame} {v : V} (hv : v.refs (fun f _ => Nat.ble 1 f) = false) (hw : Zn (fun f _ => Nat.ble 1 f) F = true) : Bp 1 v [F, G] = [F] := by
 refine Qac (H := [F]) (G := [G]) hv ?_
 show (Zn _ F && true) = true
 rw [Qx9 hw (by simp)]; rfl
theorem ChangesC.len : ∀ {ls : List Ji} {cs : List V}, ChangesC cs ls -> cs.length = ls.length * 12
 | [], cs, h => by
   have : cs = [] := h
   subst this; rfl
 | x :: rs, cs, h => by
   obtain ⟨dv, d, rfl, h1, h2⟩ := h
   have := h2.len
   simp only [Zjz, Zja, Zki, Jd]; omega
theorem ChangesC.at_ : ∀ {ls : List Ji} {cs : List V} {i : Nat} {l : Ji}, ChangesC cs ls -> ls[i]? = some l -> ∃ dv, (cs.drop (i * 12)).take 12 = Jd l dv /\ Qgm dv l.n
 | [], cs, i, r, h, hi => by simp at hi
 | x :: rs, cs, 0, r, h, hi => by
   obtain ⟨dv, d, rfl, h1, h2⟩ := h
   simp only [List.getElem?_cons_zero, Zlm] at hi
   subst hi
   exact ⟨dv, by rfl, h1⟩
 | x :: rs, cs, i + 1, r, h, hi => by
   obtain ⟨dv, d, rfl, h1, h2⟩ := h
   simp only [List.getElem?_cons_succ] at hi
   rw [show (i + 1) * 12 = (Jd x dv).length + i * 12 by simp [Jd]; omega, <- Zjy, List.drop_left]
   exact ChangesC.at_ h2 hi
def Qln (c : Ji) (s o i : Int) : Int := Qkx [B8 c.set s, B8 c.obj o, B8 c.index i]
def cCh (ls : List Ji) (s o x : Int) (i : Nat) : Int := match ls[i]? with
 | some c => Qln c s o x
 | none => 0
end Go.AM
end
section
namespace Go.AM.BM
def Qeg : V -> Option Int
 | .int .i64 a => some a
 | _ => none
def Qkz : V -> Option Int
 | .int .u32 a => some a
 | _ => none
def u8D : V -> Option Int
 | .int .u8 a => some a
 | _ => none
def Q30 : V -> UInt8
 | .int _ (.ofNat n) => UInt8.ofNat n
 | _ => 0
def Qwz (v : V) : Option (List UInt8) := match Qjt v with
 | some c => if Nat.ble c.length 4096 then some (c.map Q30) else none
 | none => none
def lenD : V -> Option Nat
 | .nS => some 0
 | .iS c n _ => if Nat.beq c.length n && Nat.ble n 4096 then some n else none
 | _ => none
def low2 : V -> Bool
 | .int .u8 (.ofNat n) => Nat.ble n 2
 | _ => false
def is1 : V -> Bool
 | .int .u8 (.ofNat n) => Nat.beq n 1
 | _ => false
def byteI : V -> Int
 | .int _ n => n
 | _ => 0
def Qw7 : V -> Option (List V × Bool)
 | .nS => some ([], false)
 | .iS c n _ => if Nat.beq n 256 && (Nat.beq c.length 256 && (c.all low2 && (c.take 12).all is1)) then some (c, true) else none
 | _ => none
def spV (c : List V) (i : Nat) : Int := byteI (c.getD i .bad)
def slD {α : Type} (f : List V -> Option (List α)) : V -> Option (List α)
 | .nS => some []
 | .iS c n _ => (match f c with
   | some l => if Nat.beq l.length n && Nat.ble n 900 then some l else none
   | none => none)
 | _ => none
def Qyv : List V -> Option (List Int)
 | [] => some []
 | v :: r => (Qeg v).bind fun a => (Qyv r).bind fun l => some (a :: l)
def Qp1 : List V -> Option (List (List UInt8))
 | [] => some []
 | v :: r => (Qwz v).bind fun a => (Qp1 r).bind fun l => some (a :: l)
def ptrD (a b c d e : V) : Option Ke := (Qeg a).bind fun a => (Qkz b).bind fun b => (Qkz c).bind fun c => (Qkz d).bind fun d => (Qkz e).bind fun e => some ⟨a, b, c, d, e⟩
def Qtp : List V -> Option (List Ke)
 | [] => some []
 | a :: b :: c :: d :: e :: r => (ptrD a b c d e).bind fun p => (Qtp r).bind fun l => some (p :: l)
 | _ => none
def Qmb : List V -> Option (List Jn)
 | [] => some []
 | a :: b :: c :: d :: e :: f :: g :: h :: i :: j :: k :: l :: m :: r => (Qeg a).bind fun a => (u8D b).bind fun b => (Qeg c).bind fun c => (Qeg d).bind fun d => (Qkz e).bind fun e => (Qkz f).bind fun f => (Qeg g).bind fun g => (ptrD h i j k l).bind fun p => (slD Qtp m).bind fun q => (Qmb r).bind fun l => some (⟨a, b, c, d, e, f, g, p, q⟩ :: l)
 | _ => none
def Qc8 : List V -> Option (List Ji)
 | [] => some []
 | a :: b :: c :: d :: e :: f :: g :: h :: i :: j :: k :: l :: r => (Qeg a).bind fun a => (Qeg b).bind fun b => (Qeg c).bind fun c => (u8D d).bind fun d => (Qeg e).bind fun e => (Qeg f).bind fun f => (lenD g).bind fun g => (ptrD h i j k l).bind fun p => (Qc8 r).bind fun l => some (⟨a, b, c, d, e, f, g, p⟩ :: l)
 | _ => none
def isI : V -> Bool
 | .nS => true
 | .iS _ _ _ => true
 | _ => false
def Q4a : List V -> Option Qj6
 | [_, _, _, e, c, g, ra, rb, rc, rd, re, mv, lv, kv, ov, cv, lg, ni, ng] => (Qkz e).bind fun e => (Qkz c).bind fun c => (Qkz g).bind fun g => (ptrD ra rb rc rd re).bind fun p => (slD Qyv mv).bind fun m => (slD Qmb lv).bind fun ls => (slD Qp1 kv).bind fun ks => (slD Qp1 ov).bind fun os => (slD Qc8 cv).bind fun cs => (Qeg lg).bind fun lg => (Qeg ni).bind fun ni => (Qkz ng).bind fun ng => some ⟨e, c, g, p, m, ls, ks, os, cs, lg, ni, ng⟩
 | _ => none
def kTxg : List V -> Option V
 | [.agg (bv :: wv :: sv :: r)] => if isI bv && isI wv then (match Qne [.agg [bv, wv]] with
   | some (.int .i64 d) => (Qw7 sv).bind fun t => (Q4a (bv :: wv :: sv :: r)).bind fun p => some (.int .i64 (okE (Qw3 d t.2 (spV t.1) p)))
   | _ => none) else none
 | _ => none
end Go.AM.BM
end
section
namespace Go.AM.BM
def Qy6 (f : FuncId) : List V -> Option V
 | [v, .agg [s, o, x], .func (.func g) [] []] => if Nat.beq g f then (slD Qc8 v).bind fun ls => (Qeg s).bind fun s => (Qeg o).bind fun o => (Qeg x).bind fun x => some (.tuple [.int .i64 (Int.ofNat (bs (cCh ls s o x) ls.length)), .bool (Qjo (cCh ls s o x) ls.length)]) else none
 | _ => none
end Go.AM.BM
end
section
namespace Go.AM
variable {P : Program}
theorem Qga {w : World} {ts : Array TypeId} {t ty e T : TypeId} {n b o ld dc ls k : Nat} {src : Value} {vs : List Value} {cur : Array Value} (ht : ts[0]? = some t) (hu : P.underlying t = some (.slice e)) (hn : sz P e = some n)
 (hb : w.heap[b]? = some (.cells cur T (0, 0))) (hls : ∀ w', (Builtin.lenOf src).run P w' = .ok ls w') (hk : min ls ld = k) (hsrc : (Builtin.firstCells n k src).run P w = .ok ⟨vs⟩ w) (hfit : o + vs.length <= cur.size) (h1 : ∀ v ∈ vs, v.oneCell' = true) :
 (Builtin.copy_ ts ty #[.slice (some ⟨b, o, none⟩) ld dc, src]).run P w = .ok (goInt k) (w.setRow b ⟨splice cur.toList o vs⟩) := by
 have hst := run_storeCells_at P b o T vs 0 cur w hb (by simp only [Zk2]; omega) h1
 simp only [Zk2] at hst
 subst hk
 simp only [Builtin.copy_, ht, Qr7, Qrl, Zlo, Qm hu, Zln, hls, Jh hn, Nat.min_eq_min, hsrc, hst, Zlp]
 rfl
theorem Qur (w : World) (c1 c2 : Array Value) (T : TypeId) (h : Array Obj) : ({ w with heap := h.push (.cells c1 T) } : World).setRow h.size c2 = { w with heap := h.push (.cells c2 T) } := by
 simp only [World.setRow]
 congr 1
 apply Array.ext_getElem?
 intro i
 simp only [Array.getElem?_modify, Array.getElem?_push]
 split
 . subst_vars; simp
 . split
   . exact absurd (by assumption) (fun e => by simp_all)
   . rfl
theorem Qcy {w w' : World} {b off : Nat} {vs : List Value} (e : w'.heap[b]? = w.heap[b]?) (h : Qcv w b off vs) : Qcv w' b off vs := by
 intro i v hv
 have := h i v hv
 simp only [World.cell?, e] at this ⊢
 exact this
theorem Qzd {w : World} {b : Nat} {cur : Array Value} {T : TypeId} {z : Nat × Nat} {vs rest : List Value} (hb : w.heap[b]? = some (.cells cur T z)) (hc : cur.toList = vs ++ rest) : Qcv w b 0 vs := by
 intro i v hv
 have : cur[i]? = some v := by
  rw [<- Zj5, hc, Zj1]
  . exact hv
  . exact (Zj3.1 hv).1
 simp [World.cell?, hb, this]
theorem Qoo {α : Type} (vs rest news : List α) (k e : Nat) (hk : k <= vs.length) (he : news.length = e) (hr : e <= rest.length) :
 splice (splice (vs ++ rest) (k + e) (vs.drop k)) k news = (vs.take k ++ news ++ vs.drop k) ++ rest.drop e := by
 unfold splice
 apply Zkb
 intro i
 simp only [List.getElem?_append, Zi5, Zkn, Zjz, Zk8, Zk0]
 grind
theorem Qqu {α : Type} (vs rest news : List α) (k : Nat) (hk : k = vs.length) : splice (vs ++ rest) k news = (vs ++ news) ++ rest.drop news.length := by
 subst hk
 unfold splice
 apply Zkb
 intro i
 simp only [List.getElem?_append, Zi5, Zkn, Zjz, Zk8, Zk0]
 grind
theorem Qo9 {α : Type} (olds Z rest news tail : List α) (k e : Nat) (ho : olds.length = k) (he : news.length = e) (hZ : Z.length = e + tail.length) :
 splice (splice (olds ++ Z ++ rest) k news) (k + e) tail = (olds ++ news ++ tail) ++ rest := by
 unfold splice
 apply Zkb
 intro i
 simp only [List.getElem?_append, Zi5, Zkn, Zjz, Zk8, Zk0]
 grind
end Go.AM
end
section
namespace Go.AM.BM
noncomputable def n64 (n : Nat) : V := .int .i64 (Int.ofNat n)
noncomputable def n32 (n : Nat) : V := .int .u32 (Int.ofNat n)
noncomputable def n8 (n : Nat) : V := .int .u8 (Int.ofNat n)
end Go.AM.BM
end
section
namespace Go
def jf1 (P : Program) (f : FuncId) (fn : Func) (s : ChangeSpec) (c : OpenClaim) : Bool := c.wf (OpenSpec.ofChange s)
def jf2 (P : Program) (f : FuncId) (fn : Func) (s : ChangeSpec) (c : OpenClaim) : Bool := laidOutB P
def jf3 (P : Program) (f : FuncId) (fn : Func) (s : ChangeSpec) (c : OpenClaim) : Bool := mapsRowed P
def jf4 (P : Program) (f : FuncId) (fn : Func) (s : ChangeSpec) (c : OpenClaim) : Bool := fn.params.all (P.readableRec ·)
def jf5 (P : Program) (f : FuncId) (fn : Func) (s : ChangeSpec) (c : OpenClaim) : Bool := namedTie P c.named s.vars
def jf6 (P : Program) (f : FuncId) (fn : Func) (s : ChangeSpec) (c : OpenClaim) : Bool := (c.stops == [])
def jf7 (P : Program) (f : FuncId) (fn : Func) (s : ChangeSpec) (c : OpenClaim) : Bool := (P.stops == [])
def jf8 (P : Program) (f : FuncId) (fn : Func) (s : ChangeSpec) (c : OpenClaim) : Bool := (c.knobs == [])
def jf9 (P : Program) (f : FuncId) (fn : Func) (s : ChangeSpec) (c : OpenClaim) : Bool := (P.stopKnobs == [])
def jf10 (P : Program) (f : FuncId) (fn : Func) (s : ChangeSpec) (c : OpenClaim) : Bool := (c.inPlace == P.inPlace f)
def jf11 (P : Program) (f : FuncId) (fn : Func) (s : ChangeSpec) (c : OpenClaim) : Bool := (c.unfollowed == P.unfollowed f)
def jf12 (P : Program) (f : FuncId) (fn : Func) (s : ChangeSpec) (c : OpenClaim) : Bool := (c.recurses == P.recurses f)
def jf13 (P : Program) (f : FuncId) (fn : Func) (s : ChangeSpec) (c : OpenClaim) : Bool := (c.named == P.varsNamed f)
def jf14 (P : Program) (f : FuncId) (fn : Func) (s : ChangeSpec) (c : OpenClaim) : Bool := (c.maps == (fn.params.toList ++ s.plain.varTypes P).any (P.mapsRec ·))
def jf15 (P : Program) (f : FuncId) (fn : Func) (s : ChangeSpec) (c : OpenClaim) : Bool := (c.ifaces == (fn.params.toList ++ s.plain.varTypes P).any (P.ifacesRec ·))
def jf16 (P : Program) (f : FuncId) (fn : Func) (s : ChangeSpec) (c : OpenClaim) : Bool := (c.mapsOut == P.mapsAmong fn.resultTypes.toList)
def jf17 (P : Program) (f : FuncId) (fn : Func) (s : ChangeSpec) (c : OpenClaim) : Bool := (c.loops == (fn.params.toList ++ s.plain.varTypes P).any (P.loopsFrom ·))
def jf18 (P : Program) (f : FuncId) (fn : Func) (s : ChangeSpec) (c : OpenClaim) : Bool := (c.wideKeys == (fn.params.toList ++ s.plain.varTypes P ++ fn.resultTypes.toList).any (P.wideKeysFrom ·))
def jf19 (P : Program) (f : FuncId) (fn : Func) (s : ChangeSpec) (c : OpenClaim) : Bool := s.vars.all (P.varReadable ·)
def jf20 (P : Program) (f : FuncId) (fn : Func) (s : ChangeSpec) (c : OpenClaim) : Bool := fn.resultTypes.all (fun t => P.readableRec t && decide (t < P.types.size))
def jf21 (P : Program) (f : FuncId) (fn : Func) (s : ChangeSpec) (c : OpenClaim) : Bool := (c.ifacesOut == fn.resultTypes.toList.any (P.ifacesRec ·))
def jf22 (P : Program) (f : FuncId) (fn : Func) (s : ChangeSpec) (c : OpenClaim) : Bool := (c.loopsOut == fn.resultTypes.toList.any (P.loopsFrom ·))
def jf23 (P : Program) (f : FuncId) (fn : Func) (s : ChangeSpec) (c : OpenClaim) : Bool := (c.plainKeys == P.plainKeys)
def jf24 (P : Program) (f : FuncId) (fn : Func) (s : ChangeSpec) (c : OpenClaim) : Bool := c.shortTexts.isNone
def jf25 (P : Program) (f : FuncId) (fn : Func) (s : ChangeSpec) (c : OpenClaim) : Bool := P.stopsHeard
def jf26 (P : Program) (f : FuncId) (fn : Func) (s : ChangeSpec) (c : OpenClaim) : Bool := P.mayEnter
def jf27 (P : Program) (f : FuncId) (fn : Func) (s : ChangeSpec) (c : OpenClaim) : Bool := (c.lifted == P.liftsFinal)
def jf28 (P : Program) (f : FuncId) (fn : Func) (s : ChangeSpec) (c : OpenClaim) : Bool := (P.make == some c.make)
def jf29 (P : Program) (f : FuncId) (fn : Func) (s : ChangeSpec) (c : OpenClaim) : Bool := (c.kinds == (if c.domain.isEmpty then [] else fn.params.toList.map fun t => match P.underlying t with | some (.int k) => some k | _ => none))
def jf30 (P : Program) (f : FuncId) (fn : Func) (s : ChangeSpec) (c : OpenClaim) : Bool := (c.pinned == c.pinnedBy)
def jf31 (P : Program) (f : FuncId) (fn : Func) (s : ChangeSpec) (c : OpenClaim) : Bool := (c.veiled == (fn.params.toList ++ s.plain.varTypes P ++ fn.resultTypes.toList).any (P.veiledRec ·))
def jf32 (P : Program) (f : FuncId) (fn : Func) (s : ChangeSpec) (c : OpenClaim) : Bool := c.veiledFits P fn.params.toList (fn.params.toList ++ s.plain.varTypes P ++ fn.resultTypes.toList)
set_option linter.unusedVariables false in
theorem Q0d {P : Program} {f : FuncId} {fn : Func} {s : ChangeSpec} {c : OpenClaim} (h1 : jf1 P f fn s c = true) (h2 : jf2 P f fn s c = true) (h3 : jf3 P f fn s c = true) (h4 : jf4 P f fn s c = true) (h5 : jf5 P f fn s c = true) (h6 : jf6 P f fn s c = true) (h7 : jf7 P f fn s c = true) (h8 : jf8 P f fn s c = true) (h9 : jf9 P f fn s c = true) (h10 : jf10 P f fn s c = true) (h11 : jf11 P f fn s c = true) (h12 : jf12 P f fn s c = true) (h13 : jf13 P f fn s c = true) (h14 : jf14 P f fn s c = true) (h15 : jf15 P f fn s c = true) (h16 : jf16 P f fn s c = true) (h17 : jf17 P f fn s c = true) (h18 : jf18 P f fn s c = true) (h19 : jf19 P f fn s c = true) (h20 : jf20 P f fn s c = true) (h21 : jf21 P f fn s c = true) (h22 : jf22 P f fn s c = true) (h23 : jf23 P f fn s c = true) (h24 : jf24 P f fn s c = true) (h25 : jf25 P f fn s c = true) (h26 : jf26 P f fn s c = true) (h27 : jf27 P f fn s c = true) (h28 : jf28 P f fn s c = true) (h29 : jf29 P f fn s c = true) (h30 : jf30 P f fn s c = true) (h31 : jf31 P f fn s c = true) (h32 : jf32 P f fn s c = true) : joinedFacts P f fn s c = true := by
 unfold joinedFacts
 simp only [Bool.and_eq_true]
 refine ⟨⟨⟨⟨⟨⟨⟨⟨⟨⟨⟨⟨⟨⟨⟨⟨⟨⟨⟨⟨⟨⟨⟨⟨⟨⟨⟨⟨⟨⟨⟨h1, h2⟩, h3⟩, h4⟩, h5⟩, h6⟩, h7⟩, h8⟩, h9⟩, h10⟩, h11⟩, h12⟩, h13⟩, h14⟩, h15⟩, h16⟩, h17⟩, h18⟩, h19⟩, h20⟩, h21⟩, h22⟩, h23⟩, h24⟩, h25⟩, h26⟩, h27⟩, h28⟩, h29⟩, h30⟩, h31⟩, h32⟩
end Go
end
