/- The engine, part L: shorter forms, for walks that are printed: places by number, what is kept by lists of numbers, several reckonings as one. -/
import Derived.Test.YtbohadngdkjljaaGreatFwK
namespace Go.Fw
open Go Go.RowKit
variable {w0 w:World} {M:Nat→Prop} {I0 I I1:IH} {m m':List HA}
variable {P:Program} {n:FrK} {E:DH} {S:World→Prop} {Q:Exit→Act→World→Prop} {ops:Array Oper} {l:List Oper}
variable {d ty:Nat} {pos:String} {af:Array Edge} {T e:TypeId} {x y:Operand}
variable {α:Type} {El:EL α} {xs ys:List α} {a:Option Addr} {cap:Nat}
/-! ### Places -/
section
variable {A B C1 C2 C3 C4 C5 C6 C7 C8 C9:HA} {q:List HA}
theorem Del.p1:Del (C1 :: A :: q) A (C1 :: q):=.s .z
theorem At.p1:At (C1 :: A :: q) A (C1 :: B :: q) B:=.s .z
theorem Del.p2:Del (C1 :: C2 :: A :: q) A (C1 :: C2 :: q):=.s (.s .z)
theorem At.p2:At (C1 :: C2 :: A :: q) A (C1 :: C2 :: B :: q) B:=.s (.s .z)
theorem Del.p3:Del (C1 :: C2 :: C3 :: A :: q) A (C1 :: C2 :: C3 :: q):=.s (.s (.s .z))
theorem At.p3:At (C1 :: C2 :: C3 :: A :: q) A (C1 :: C2 :: C3 :: B :: q) B:=.s (.s (.s .z))
theorem Del.p4:Del (C1 :: C2 :: C3 :: C4 :: A :: q) A (C1 :: C2 :: C3 :: C4 :: q):=.s (.s (.s (.s .z)))
theorem At.p4:At (C1 :: C2 :: C3 :: C4 :: A :: q) A (C1 :: C2 :: C3 :: C4 :: B :: q) B:=.s (.s (.s (.s .z)))
theorem Del.p5:Del (C1 :: C2 :: C3 :: C4 :: C5 :: A :: q) A (C1 :: C2 :: C3 :: C4 :: C5 :: q):=.s (.s (.s (.s (.s .z))))
theorem At.p5:At (C1 :: C2 :: C3 :: C4 :: C5 :: A :: q) A (C1 :: C2 :: C3 :: C4 :: C5 :: B :: q) B:=.s (.s (.s (.s (.s .z))))
theorem Del.p6:Del (C1 :: C2 :: C3 :: C4 :: C5 :: C6 :: A :: q) A (C1 :: C2 :: C3 :: C4 :: C5 :: C6 :: q):=.s (.s (.s (.s (.s (.s .z)))))
theorem At.p6:At (C1 :: C2 :: C3 :: C4 :: C5 :: C6 :: A :: q) A (C1 :: C2 :: C3 :: C4 :: C5 :: C6 :: B :: q) B:=.s (.s (.s (.s (.s (.s .z)))))
theorem Del.p7:Del (C1 :: C2 :: C3 :: C4 :: C5 :: C6 :: C7 :: A :: q) A (C1 :: C2 :: C3 :: C4 :: C5 :: C6 :: C7 :: q):=.s (.s (.s (.s (.s (.s (.s .z))))))
theorem At.p7:At (C1 :: C2 :: C3 :: C4 :: C5 :: C6 :: C7 :: A :: q) A (C1 :: C2 :: C3 :: C4 :: C5 :: C6 :: C7 :: B :: q) B:=.s (.s (.s (.s (.s (.s (.s .z))))))
theorem Del.p8:Del (C1 :: C2 :: C3 :: C4 :: C5 :: C6 :: C7 :: C8 :: A :: q) A (C1 :: C2 :: C3 :: C4 :: C5 :: C6 :: C7 :: C8 :: q):=.s (.s (.s (.s (.s (.s (.s (.s .z)))))))
theorem At.p8:At (C1 :: C2 :: C3 :: C4 :: C5 :: C6 :: C7 :: C8 :: A :: q) A (C1 :: C2 :: C3 :: C4 :: C5 :: C6 :: C7 :: C8 :: B :: q) B:=.s (.s (.s (.s (.s (.s (.s (.s .z)))))))
theorem Del.p9:Del (C1 :: C2 :: C3 :: C4 :: C5 :: C6 :: C7 :: C8 :: C9 :: A :: q) A (C1 :: C2 :: C3 :: C4 :: C5 :: C6 :: C7 :: C8 :: C9 :: q):=.s (.s (.s (.s (.s (.s (.s (.s (.s .z))))))))
theorem At.p9:At (C1 :: C2 :: C3 :: C4 :: C5 :: C6 :: C7 :: C8 :: C9 :: A :: q) A (C1 :: C2 :: C3 :: C4 :: C5 :: C6 :: C7 :: C8 :: C9 :: B :: q) B:=.s (.s (.s (.s (.s (.s (.s (.s (.s .z))))))))
end
def oA:Nat→List HA→Option (HA×List HA)
  | _,[]=>none
  | 0,A :: q=>some (A,q)
  | k+1,C :: q=>match oA k q with
    | some (A,r)=>some (A,C :: r)
    | none=>none
theorem gL:∀ {k:Nat} {q r:List HA} {A:HA},oA k q=some (A,r)→Del q A r
  | _,[],_,_,h=>by cases ‹Nat› <;> cases h
  | 0,A :: q,_,_,h=>by cases h; exact .z
  | k+1,C :: q,r,A,h=>by
    simp only [oA] at h
    cases hd:oA k q with
    | none=>rw [hd] at h; cases h
    | some p=>obtain ⟨B,s⟩:=p; rw [hd] at h; cases h; exact .s (gL hd)
theorem Del.o {q r:List HA} {A:HA} (k:Nat) (h:oA k q=some (A,r)):Del q A r:=gL h
def pkL:List Nat→List HA→Option (List HA)
  | [],_=>some []
  | k :: ks,q=>match oA k q with
    | some (A,r)=>match pkL ks r with
      | some s=>some (A :: s)
      | none=>none
    | none=>none
theorem Pick.o {q s:List HA} (ks:List Nat) (h:pkL ks q=some s):Pick q s:=by
  induction ks generalizing q s with
  | nil=>cases h; exact .n
  | cons k ks ih=>
    simp only [pkL] at h
    cases hd:oA k q with
    | none=>rw [hd] at h; cases h
    | some p=>
      obtain ⟨A,r⟩:=p; rw [hd] at h; simp only at h
      cases hp:pkL ks r with
      | none=>rw [hp] at h; cases h
      | some t=>rw [hp] at h; cases h; exact .c (gL hd) (ih hp)
def xW:List Nat→List HA→Option (List HA×List HA)
  | [],q=>some ([],q)
  | k :: ks,q=>match oA k q with
    | some (A,r)=>match xW ks r with
      | some (s,t)=>some (A :: s,t)
      | none=>none
    | none=>none
theorem Outs.o {q s t:List HA} (ks:List Nat) (h:xW ks q=some (s,t)):Outs q s t:=by
  induction ks generalizing q s t with
  | nil=>cases h; exact .n
  | cons k ks ih=>
    simp only [xW] at h
    cases hd:oA k q with
    | none=>rw [hd] at h; cases h
    | some p=>
      obtain ⟨A,r⟩:=p; rw [hd] at h; simp only at h
      cases hp:xW ks r with
      | none=>rw [hp] at h; cases h
      | some u=>obtain ⟨u1,u2⟩:=u; rw [hp] at h; cases h; exact .c (gL hd) (ih hp)
def vJ:Nat→List HA→Option (List HA)
  | 0,q=>some q
  | k+1,A :: q=>match vJ k q with
    | some r=>some (A :: r)
    | none=>none
  | _+1,[]=>none
theorem gM:∀ {k:Nat} {q r:List HA},vJ k q=some r→q=r
  | 0,_,_,h=>by cases h; rfl
  | k+1,A :: q,r,h=>by
    simp only [vJ] at h
    cases hp:vJ k q with
    | none=>rw [hp] at h; cases h
    | some s=>rw [hp] at h; cases h; rw [gM hp]
  | _+1,[],_,h=>by cases h
theorem Ops.rx (k:Nat) (h:vJ k m=some m') (g:Ops P ops l n E (Sym w0 M I0 I m') Q):Ops P ops l n E (Sym w0 M I0 I m) Q:=gM h▸g
theorem Cod.rx {c:Code} (k:Nat) (h:vJ k m=some m') (g:Cod P c n E (Sym w0 M I0 I m') Q):Cod P c n E (Sym w0 M I0 I m) Q:=gM h▸g
theorem Nrm.rx (k:Nat) (h:vJ k m=some m') (g:Nrm n E (Sym w0 M I0 I m') Q):Nrm n E (Sym w0 M I0 I m) Q:=gM h▸g
def vK:Nat→List HA→Option (List HA)
  | 0,[]=>some []
  | 0,_ :: _=>none
  | k+1,A :: q=>match vK k q with
    | some r=>some (A :: r)
    | none=>none
  | _+1,[]=>none
theorem gN:∀ {k:Nat} {q r:List HA},vK k q=some r→q=r
  | 0,[],_,h=>by cases h; rfl
  | 0,_ :: _,_,h=>by cases h
  | k+1,A :: q,r,h=>by
    simp only [vK] at h
    cases hp:vK k q with
    | none=>rw [hp] at h; cases h
    | some s=>rw [hp] at h; cases h; rw [gN hp]
  | _+1,[],_,h=>by cases h
theorem Ops.rn (k:Nat) (h:vK k m=some m') (g:Ops P ops l n E (Sym w0 M I0 I m') Q):Ops P ops l n E (Sym w0 M I0 I m) Q:=gN h▸g
theorem Cod.rn {c:Code} (k:Nat) (h:vK k m=some m') (g:Cod P c n E (Sym w0 M I0 I m') Q):Cod P c n E (Sym w0 M I0 I m) Q:=gN h▸g
theorem Nrm.rn (k:Nat) (h:vK k m=some m') (g:Nrm n E (Sym w0 M I0 I m') Q):Nrm n E (Sym w0 M I0 I m) Q:=gN h▸g
def oB:List Value→Nat→Nat→Option (List Value)
  | _,0,0=>some []
  | c :: cs,0,j+1=>match oB cs 0 j with
    | some vs=>some (c :: vs)
    | none=>none
  | _ :: cs,k+1,j=>oB cs k j
  | [],_,_=>none
theorem Cut.o:∀ {cs vs:List Value} {k:Nat} (j:Nat),oB cs k j=some vs→Cut cs k vs
  | cs,vs,0,0,h=>by cases cs <;> (simp only [oB] at h; cases h; exact .nil)
  | c :: cs,vs,0,j+1,h=>by
    simp only [oB] at h
    cases hp:oB cs 0 j with
    | none=>rw [hp] at h; cases h
    | some us=>rw [hp] at h; cases h; exact .t (Cut.o j hp)
  | c :: cs,vs,k+1,j,h=>by
    simp only [oB] at h
    exact .s (Cut.o j h)
  | [],_,0,_+1,h=>by simp [oB] at h
  | [],_,_+1,_,h=>by simp [oB] at h
def fV:List Value→Nat→List Value→Option (List Value)
  | cs,0,[]=>some cs
  | _ :: cs,0,v :: vs=>match fV cs 0 vs with
    | some r=>some (v :: r)
    | none=>none
  | c :: cs,k+1,vs=>match fV cs k vs with
    | some r=>some (c :: r)
    | none=>none
  | [],_,_=>none
theorem PutC.o:∀ {cs vs cs':List Value} {k:Nat},fV cs k vs=some cs'→PutC cs k vs cs'
  | cs,[],cs',0,h=>by cases cs <;> (simp only [fV] at h; cases h; exact .nil)
  | c :: cs,v :: vs,cs',0,h=>by
    simp only [fV] at h
    cases hp:fV cs 0 vs with
    | none=>rw [hp] at h; cases h
    | some us=>rw [hp] at h; cases h; exact .t (PutC.o hp)
  | c :: cs,vs,cs',k+1,h=>by
    simp only [fV] at h
    cases hp:fV cs k vs with
    | none=>rw [hp] at h; cases h
    | some us=>rw [hp] at h; cases h; exact .s (PutC.o hp)
  | [],_ :: _,_,0,h=>by simp [fV] at h
  | [],_,_,_+1,h=>by simp [fV] at h
def reE:DH→DH→Option DH
  | [],_=>some []
  | p :: A,E=>match look E p.1 with
    | some v=>match reE A E with
      | some B=>some ((p.1,v) :: B)
      | none=>none
    | none=>none
theorem xX:∀ {A E:DH},reE A E=some A→Sub A E
  | [],_,_=>trivial
  | p :: A,E,h=>by
    simp only [reE] at h
    cases hl:look E p.1 with
    | none=>rw [hl] at h; cases h
    | some v=>
      rw [hl] at h; simp only at h
      cases hr:reE A E with
      | none=>rw [hr] at h; cases h
      | some B=>
        rw [hr] at h
        simp only [Option.some.injEq,List.cons.injEq] at h
        obtain ⟨h1,rfl⟩:=h
        exact ⟨by rw [hl,←h1],xX hr⟩
theorem Ok.re {E':DH} {a:Act} (ho:Ok n E a) (h:reE E' E=some E'):Ok n E' a:=ho.sub (xX h)
def Jn (w0:World) (M:Nat→Prop) (I0 I1:IH) (n:FrK) (E:DH) (q:List HA):Act→World→Prop:=fun c w=>∃ I,IH.le I1 I∧Ok n E c∧Sym w0 M I0 I q w
def Jx (w0:World) (M:Nat→Prop) (I0 I1:IH) (n:FrK) (F:IH→Prop) (E:DH) (q:List HA):Act→World→Prop:=fun c w=>∃ I,IH.le I1 I∧F I∧Ok n E c∧Sym w0 M I0 I q w
theorem Cod.jn {σ:Type} {c:Code} {mm:(σ→Prop)→Prop} {k:σ→Prop} {E1:DH} {m1:List HA} (hd:FW mm k) (ks ps:List Nat) (h:(VC ks E [],pkL ps m)=(some E1,some m1))
    (St:(DH→List HA→Act→World→Prop)→DH→List HA→σ→Act→World→Prop) (hx:∀ k,mm k→Cod P c n E (Sym w0 M I0 I m) (Exit.then (fun a w=>∃ s,k s∧St (Jn w0 M I0 I n) E1 m1 s a w) Q))
    (hy:∀ s,k s→∀ a w,St (Jn w0 M I0 I n) E1 m1 s a w→Q .normal a w):Cod P c n E (Sym w0 M I0 I m) Q:=Cod.joinQ hd _ hx hy
theorem Cod.jx {σ:Type} {c:Code} {mm:(σ→Prop)→Prop} {k:σ→Prop} {E1:DH} {m1:List HA} (hd:FW mm k) (ks ps:List Nat) (h:(VC ks E [],pkL ps m)=(some E1,some m1))
    (St:(FrK→(IH→Prop)→DH→List HA→Act→World→Prop)→DH→List HA→σ→Act→World→Prop) (hx:∀ k,mm k→Cod P c n E (Sym w0 M I0 I m) (Exit.then (fun a w=>∃ s,k s∧St (Jx w0 M I0 I) E1 m1 s a w) Q))
    (hy:∀ s,k s→∀ a w,St (Jx w0 M I0 I) E1 m1 s a w→Q .normal a w):Cod P c n E (Sym w0 M I0 I m) Q:=Cod.joinQ hd _ hx hy
theorem Cod.lp {σ:Type} {c:Code} {body:σ→(σ→Prop)→Prop} {s0:σ} {E1:DH} {m1:List HA} (hd:BD body s0) (ks ps:List Nat) (h:(VC ks E [],pkL ps m)=(some E1,some m1))
    (St:(DH→List HA→Act→World→Prop)→DH→List HA→σ→Act→World→Prop) (h0:∀ a w,Ok n E a→Sym w0 M I0 I m w→St (Jn w0 M I0 I n) E1 m1 s0 a w)
    (hs:∀ s (next:σ→Prop),body s next→∀ a w,St (Jn w0 M I0 I n) E1 m1 s a w→c.wpIn (RJ n) 0 P (Exit.then (fun a' w'=>∃ s',next s'∧St (Jn w0 M I0 I n) E1 m1 s' a' w') Q) a w):Cod P (.loop c) n E (Sym w0 M I0 I m) Q:=Cod.loop hd _ h0 hs
theorem Cod.lx {σ:Type} {c:Code} {body:σ→(σ→Prop)→Prop} {s0:σ} {E1:DH} {m1:List HA} (hd:BD body s0) (ks ps:List Nat) (h:(VC ks E [],pkL ps m)=(some E1,some m1))
    (St:(FrK→(IH→Prop)→DH→List HA→Act→World→Prop)→DH→List HA→σ→Act→World→Prop) (h0:∀ a w,Ok n E a→Sym w0 M I0 I m w→St (Jx w0 M I0 I) E1 m1 s0 a w)
    (hs:∀ s (next:σ→Prop),body s next→∀ a w,St (Jx w0 M I0 I) E1 m1 s a w→c.wpIn (RJ n) 0 P (Exit.then (fun a' w'=>∃ s',next s'∧St (Jx w0 M I0 I) E1 m1 s' a' w') Q) a w):Cod P (.loop c) n E (Sym w0 M I0 I m) Q:=Cod.loop hd _ h0 hs
theorem ji {St:Act→World→Prop} {E':DH} {q:List HA} (hle:I1.le I) (ks:List Nat) (h:(St,reE E' E,pkL ks m)=(Jn w0 M I0 I1 n E' q,some E',some q)):∀ a w,Ok n E a→Sym w0 M I0 I m w→St a w:=fun a w ho hs=>by
  injection h with h1 h2; injection h2 with h2 h3
  rw [h1]; exact ⟨I,hle,ho.re h2,hs.pick (.o ks h3)⟩
theorem je {σ:Type} {k:σ→Prop} {St:σ→Act→World→Prop} {E':DH} {q:List HA} (s:σ) (hk:k s) (hle:I1.le I) (ks:List Nat) (h:(St s,reE E' E,pkL ks m)=(Jn w0 M I0 I1 n E' q,some E',some q)):∀ a w,Ok n E a→Sym w0 M I0 I m w→∃ s,k s∧St s a w:=
  fun a w ho hs=>⟨s,hk,ji hle ks h a w ho hs⟩
theorem jf {F:IH→Prop} {E':DH} {q:List HA} {a:Act} {w:World} (hle:I1.le I) (hF:F I) (ks:List Nat) (h:(reE E' E,pkL ks m)=(some E',some q)) (ho:Ok n E a) (hs:Sym w0 M I0 I m w):Jx w0 M I0 I1 n F E' q a w:=by
  injection h with h2 h3
  exact ⟨I,hle,hF,ho.re h2,hs.pick (.o ks h3)⟩
theorem jq {G:Act→World→Prop} {y:Code} {Q':Exit→Act→World→Prop} {q:List HA} (hq:G=fun a w=>y.wpIn (RJ n) 0 P Q' a w) (h:∀ I',I.le I'→Cod P y n E (Sym w0 M I0 I' q) Q'):∀ a w,Jn w0 M I0 I n E q a w→G a w:=fun a w ⟨I',hle,ho,hs⟩=>by
  rw [hq]; exact h I' hle a w ho hs
class Up (A:Prop) (I J:IH) (B:outParam Prop):Prop where
  up:I.le J→A→B
instance {I J K:IH}:Up (IH.le K I) I J (IH.le K J):=⟨fun h k=>k.trans h⟩
instance {α:Type} {El:EL α} {a:Option Addr} {cap:Nat} {xs:List α} {I J:IH}:Up (RepSl El I a cap xs) I J (RepSl El J a cap xs):=⟨fun h k=>k.mono h⟩
instance {b off:Nat} {cs:List Value} {I J:IH}:Up (ImC I b off cs) I J (ImC J b off cs):=⟨fun h k=>k.mono h⟩
instance {α:Type} {El:EL α} {css:List (zZ El.sz)} {xs:List α} {I J:IH}:Up (RepR El I css xs) I J (RepR El J css xs):=⟨fun h k=>k.mono h⟩
section
variable {J:IH} {A B C D F G A' B' C' D' F' G':Prop}
theorem IH.le.u1 (h:I.le J) (a:A) [Up A I J A']:A':=Up.up h a
theorem IH.le.u2 (h:I.le J) (a:A) (b:B) [Up A I J A'] [Up B I J B']:A'∧B':=⟨h.u1 a,h.u1 b⟩
theorem IH.le.u3 (h:I.le J) (a:A) (b:B) (c:C) [Up A I J A'] [Up B I J B'] [Up C I J C']:A'∧B'∧C':=⟨h.u1 a,h.u2 b c⟩
theorem IH.le.u4 (h:I.le J) (a:A) (b:B) (c:C) (d:D) [Up A I J A'] [Up B I J B'] [Up C I J C'] [Up D I J D']:A'∧B'∧C'∧D':=⟨h.u1 a,h.u3 b c d⟩
theorem IH.le.u5 (h:I.le J) (a:A) (b:B) (c:C) (d:D) (f:F) [Up A I J A'] [Up B I J B'] [Up C I J C'] [Up D I J D'] [Up F I J F']:A'∧B'∧C'∧D'∧F':=⟨h.u1 a,h.u4 b c d f⟩
theorem IH.le.u6 (h:I.le J) (a:A) (b:B) (c:C) (d:D) (f:F) (g:G) [Up A I J A'] [Up B I J B'] [Up C I J C'] [Up D I J D'] [Up F I J F'] [Up G I J G']:A'∧B'∧C'∧D'∧F'∧G':=⟨h.u1 a,h.u5 b c d f g⟩
end
theorem rf:IH.le I I:=.refl _
def rsl (k:Nat) (ks:List Nat):DH→Option (DH×List Nat)
  | []=>some ([],[])
  | p :: E=>match rsl k ks E with
    | some (F,ns)=>bif KA ks p.1 then match p.2 with
        | .slice a j c=>some ((p.1,.slice a k c) :: F,j :: ns)
        | _=>none
      else some (p :: F,ns)
    | none=>none
def cps (k:Nat):List Nat→List Nat
  | []=>[]
  | _ :: r=>k :: cps k r
theorem oC {k:Nat}:∀ {ks:List Nat} {j:Nat},j∈cps k ks→j=k
  | _ :: _,_,h=>by
    simp only [cps,List.mem_cons] at h
    rcases h with h | h
    · exact h
    · exact oC h
theorem oD {k:Nat} {ks:List Nat} {a:Act}:∀ {E E':DH} {ns:List Nat},rsl k ks E=some (E',ns)→(∀ j∈ns,j=k)→EnvOk E a→EnvOk E' a
  | [],_,_,h,_,_=>by cases h; trivial
  | p :: E,E',ns,h,hn,he=>by
    simp only [rsl] at h
    cases hr:rsl k ks E with
    | none=>rw [hr] at h; cases h
    | some q=>
      obtain ⟨F,ms⟩:=q
      rw [hr] at h; simp only at h
      cases hb:KA ks p.1 with
      | false=>rw [hb] at h; cases h; exact ⟨he.1,oD hr hn he.2⟩
      | true=>
        rw [hb] at h; simp only [cond_true] at h
        split at h
        · rename_i b j c hv
          cases h
          have hj:j=k:=hn j (by simp)
          exact ⟨by rw [←hj,←hv]; exact he.1,oD hr (fun i hi=>hn i (by simp [hi])) he.2⟩
        · cases h
theorem Ops.rl {k:Nat} {E':DH} (hA:Del m (OwnSl El T a cap xs) m') (ks:List Nat) (h:rsl xs.length ks E=some (E',cps k ks)) (hk:xs.length=k) (g:Ops P ops l n E' (Sym w0 M I0 I m) Q):Ops P ops l n E (Sym w0 M I0 I m) Q:=
  fun c w ho hs=>g c w ⟨ho.size,ho.defers,oD h (fun j hj=>by rw [hk]; exact oC hj) ho.env⟩ hs
theorem Cod.rl {c:Code} {k:Nat} {E':DH} (hA:Del m (OwnSl El T a cap xs) m') (ks:List Nat) (h:rsl xs.length ks E=some (E',cps k ks)) (hk:xs.length=k) (g:Cod P c n E' (Sym w0 M I0 I m) Q):Cod P c n E (Sym w0 M I0 I m) Q:=
  fun c w ho hs=>g c w ⟨ho.size,ho.defers,oD h (fun j hj=>by rw [hk]; exact oC hj) ho.env⟩ hs
theorem Ops.no {z:Code} {E':DH} {Q':Exit→Act→World→Prop} (ks:List Nat) (h:(VC ks E [],fun a w=>Q .normal a w)=(some E',fun a w=>z.wpIn (RJ n) 0 P Q' a w)) (g:Cod P z n E' S Q'):Ops P ops [] n E S Q:=by
  injection h with h1 h2; exact .nilS ks h1 h2 g
theorem Ops.nkT {tb:List (Nat×List Nat)} (ht:AllOk P tb) {z:Code} {E' E2:DH} {Q':Exit→Act→World→Prop} {id:Nat} {l2 l':List Oper} (ks:List Nat) (j:Nat)
    (h:(VC ks E [],(fun a w=>Q .normal a w),iH tb l2.toArray n j l2 E')=(some E',(fun a w=>(Code.seq (.region id l2.toArray false) z).wpIn (RJ n) 0 P Q' a w),some (l',E2)))
    (g:Ops P l2.toArray l' n E2 S (Exit.then (z.wpIn (RJ n) 0 P Q') Q')):Ops P ops [] n E S Q:=by
  injection h with h1 h2; injection h2 with h2 h3; exact .nilS ks h1 h2 (.sr (.ksT ht j h3 g))
theorem Ops.ns {z:Code} {E':DH} {Q':Exit→Act→World→Prop} {id:Nat} {l2:List Oper} (ks:List Nat)
    (h:(VC ks E [],(fun a w=>Q .normal a w))=(some E',(fun a w=>(Code.seq (.region id l2.toArray false) z).wpIn (RJ n) 0 P Q' a w)))
    (g:Ops P l2.toArray l2 n E' S (Exit.then (z.wpIn (RJ n) 0 P Q') Q')):Ops P ops [] n E S Q:=by
  injection h with h1 h2; exact .nilS ks h1 h2 (.sr g)
theorem Cod.skT {tb:List (Nat×List Nat)} (ht:AllOk P tb) {id:Nat} {l l':List Oper} {z:Code} {E':DH} (j:Nat) (h:iH tb l.toArray n j l E=some (l',E')) (g:Ops P l.toArray l' n E' S (Exit.then (z.wpIn (RJ n) 0 P Q) Q)):Cod P (.seq (.region id l.toArray false) z) n E S Q:=.sr (.ksT ht j h g)
theorem Ops.knT {tb:List (Nat×List Nat)} (ht:AllOk P tb) {z:Code} {E1 E':DH} {Q':Exit→Act→World→Prop} (j:Nat) (ks:List Nat) (h:(iH tb ops n j l E,VC ks E1 [],fun a w=>Q .normal a w)=(some ([],E1),some E',fun a w=>z.wpIn (RJ n) 0 P Q' a w)) (g:Cod P z n E' S Q'):Ops P ops l n E S Q:=by
  injection h with h1 h2; injection h2 with h2 h3; exact .ksT ht j h1 (.nilS ks h2 h3 g)
theorem Cod.sn {z:Code} {E':DH} {Q':Exit→Act→World→Prop} (ks:List Nat) (h:(VC ks E [],fun a w=>Q .normal a w)=(some E',fun a w=>z.wpIn (RJ n) 0 P Q' a w)) (g:Cod P z n E' S Q'):Cod P .skip n E S Q:=by
  injection h with h1 h2; exact .skipS ks h1 h2 g
theorem Cod.en {z:Code} {k:Nat} {E':DH} {Q':Exit→Act→World→Prop} (ks:List Nat) (h:(VC ks E [],fun a w=>Q (.exit k) a w)=(some E',fun a w=>z.wpIn (RJ n) 0 P Q' a w)) (g:Cod P z n E' S Q'):Cod P (.exit k) n E S Q:=by
  injection h with h1 h2; exact .exitS ks h1 h2 g
theorem Ops.lo {b off:Nat} {cs:List Value} {T':TypeId} {fz:Nat×Nat} {v:Value} (hT:∀ w,(isAgg T).run P w=.ok false w) (hA:Del m (pto b (.cells cs.toArray T' fz)) m')
    (h:(ev E x,cs[off]?,Nat.blt d n.sz,fresh E d)=(some (.pointer (some ⟨b,off,none⟩)),some v,true,true)) (k:Ops P ops l n ((d,v) :: E) (Sym w0 M I0 I m) Q):Ops P ops (⟨some d,.load T x,ty,pos,af,none⟩ :: l) n E (Sym w0 M I0 I m) Q:=by
  injection h with h1 h; injection h with h2 h; injection h with h3 h4; exact .load1 hT h1 hA h2 h3 h4 k
theorem Ops.lw {b s:Nat} {cs:List Value} {T':TypeId} {fz:Nat×Nat} (hT:∀ w,(isAgg T).run P w=.ok true w) (hS:∀ w,(sizeOf T).run P w=.ok s w) (hA:Del m (pto b (.cells cs.toArray T' fz)) m')
    (h:(ev E x,cs.length,Nat.blt d n.sz,fresh E d)=(some (.pointer (some ⟨b,0,none⟩)),s,true,true)) (k:Ops P ops l n ((d,.agg cs.toArray) :: E) (Sym w0 M I0 I m) Q):Ops P ops (⟨some d,.load T x,ty,pos,af,none⟩ :: l) n E (Sym w0 M I0 I m) Q:=by
  injection h with h1 h; injection h with h2 h; injection h with h3 h4; exact .loadW hT hS h1 hA h2 h3 h4 k
theorem Ops.sa {b off s:Nat} {cs vs cs':List Value} {T':TypeId} (hS:∀ w,(sizeOf T).run P w=.ok s w) (hA:At m (pto b (.cells cs.toArray T' (0,0))) m' (pto b (.cells cs'.toArray T' (0,0))))
    (h:(ev E x,ev E y,fV cs off vs,vs.length,LU vs)=(some (.pointer (some ⟨b,off,none⟩)),some (.agg vs.toArray),some cs',s,true)) (k:Ops P ops l n E (Sym w0 M I0 I m') Q):Ops P ops (⟨none,.store T x y,ty,pos,af,none⟩ :: l) n E (Sym w0 M I0 I m) Q:=by
  injection h with h1 h; injection h with h2 h; injection h with h3 h; injection h with h4 h5; exact .storeA hS h1 h2 hA (.o h3) h4 h5 k
theorem Ops.s1 {b off:Nat} {cs cs':List Value} {v:Value} {T':TypeId} (hS:∀ w,(sizeOf T).run P w=.ok 1 w) (hA:At m (pto b (.cells cs.toArray T' (0,0))) m' (pto b (.cells cs'.toArray T' (0,0))))
    (h:(ev E x,ev E y,fV cs off [v],one v)=(some (.pointer (some ⟨b,off,none⟩)),some v,some cs',true)) (k:Ops P ops l n E (Sym w0 M I0 I m') Q):Ops P ops (⟨none,.store T x y,ty,pos,af,none⟩ :: l) n E (Sym w0 M I0 I m) Q:=by
  injection h with h1 h; injection h with h2 h; injection h with h3 h4; exact .store1 hS h1 h2 hA (.o h3) h4 k
theorem Ops.yes {dst:Option Nat} {op:Op} {j s:Nat} {b c:Bool} (h:(Z2 ops j,look E s,c)=(some s,some (.bool c),b)) (k:Ops P ops (⟨dst,op,ty,pos,af,none⟩ :: l) n E S Q):Ops P ops (⟨dst,op,ty,pos,af,some (j,b)⟩ :: l) n E S Q:=by
  injection h with h1 h; injection h with h2 h3; exact .gyes h1 h2 h3 k
theorem DrawD.h {cs:List (Option Nat)} {dn:HE} {X pend:List Nat} {as:List AS} {L:Sh} {c:Nat} {o:Oper} {v:Value} (h:(ops[c]?,o.dst,fresh E d)=(some o,some d,true)) (g:∀ ex,Ops P ops [o] n (IJ dn (EU o) E) (Sym w0 M I0 I (L ex)) (Fin n (Sym w0 M I0 I (L ex)) d v))
    (k:DrawD P ops n Q w0 M I0 E cs ((c,d,v) :: dn) (c :: X) (c :: pend) as I L):DrawD P ops n Q w0 M I0 E (some c :: cs) dn X pend as I L:=by
  injection h with h1 h; injection h with h2 h3; exact .g h1 h2 h3 g k
theorem PendL.ch {S:List HA→World→Prop} {dn:HE} {f:Nat} {fs:List Nat} {o:Oper} {v:Value} (h:(ops[f]?,o.dst,fresh E d,GQ dn f)=(some o,some d,true,some (d,v))) (g:∀ ex,Ops P ops [o] n (IJ dn (EU o) E) (S ex) (Fin n (S ex) d v))
    (k:PendL P ops n E dn S fs):PendL P ops n E dn S (f :: fs):=by
  injection h with h1 h; injection h with h2 h; injection h with h3 h4; exact .cg h1 h2 h3 h4 g k
theorem Ops.ln {S:World→Prop} {k:Nat} {tys:Array TypeId} (hT:P.underlying T=some (.slice e)) (h:(tys[0]?,ev E x,Nat.blt d n.sz,fresh E d)=(some T,some (.slice a k cap),true,true))
    (g:Ops P ops l n ((d,.int .i64 (k:Int)) :: E) S Q):Ops P ops (⟨some d,.call ⟨.builtin .len,#[x],tys⟩,ty,pos,af,none⟩ :: l) n E S Q:=by
  injection h with h1 h; injection h with h2 h; injection h with h3 h4; exact .len hT h1 h2 h3 h4 g
theorem Ops.al {z:Array Value} (hz:∀ w,(zeroValue T).run P w=.ok (.agg z) w) (h:(Nat.blt d n.sz,fresh E d)=(true,true))
    (k:∀ b,Ops P ops l n ((d,.pointer (some ⟨b,0,none⟩)) :: E) (Sym w0 M I0 I (pto b (.cells z T) :: m)) Q):Ops P ops (⟨some d,.alloc T,ty,pos,af,none⟩ :: l) n E (Sym w0 M I0 I m) Q:=by
  injection h with h1 h2; exact .allocA hz h1 h2 k
theorem Ops.bx {z:Array Value} (h:(ev E x,Nat.blt d n.sz,fresh E d)=(some (.agg z),true,true))
    (k:∀ b,Ops P ops l n ((d,.pointer (some ⟨b,0,none⟩)) :: E) (Sym w0 M I0 I (pto b (.cells z T) :: m)) Q):Ops P ops (⟨some d,.box T x,ty,pos,af,none⟩ :: l) n E (Sym w0 M I0 I m) Q:=by
  injection h with h1 h; injection h with h2 h3; exact .boxA h1 h2 h3 k
theorem Ops.cq {g:FuncId} {args:List Operand} {vs:List Value} {tys:Array TypeId} {ρ:Type} {en:ρ→Value} {R:ρ→Prop} (hg:∀ as w,(callFunc g as).run P w=.ok (.enter g as) w) (hf:BW P g vs I fun _ v=>∃ r,v=en r∧R r)
    (h:(qF E args,Nat.blt d n.sz,fresh E d)=(some vs,true,true)) (k:∀ r,R r→Ops P ops l n ((d,en r) :: E) (Sym w0 M I0 I m) Q):Ops P ops (⟨some d,.call ⟨.value (.func g),args.toArray,tys⟩,ty,pos,af,none⟩ :: l) n E (Sym w0 M I0 I m) Q:=by
  injection h with h1 h; injection h with h2 h3; exact .callP hg h1 hf h2 h3 fun v ⟨r,hv,hr⟩=>by subst hv; exact k r hr
def rA:Nat→List Value→Option DH
  | _,[]=>some []
  | i,v :: vs=>match rA (i+1) vs with
    | some E=>some ((i,v) :: E)
    | none=>none
theorem rB:∀ {i:Nat} {vs:List Value} {E:DH},rA i vs=some E→ArgsE i vs E
  | _,[],_,h=>by cases h; exact .n
  | i,v :: vs,E,h=>by
    simp only [rA] at h
    cases hr:rA (i+1) vs with
    | none=>rw [hr] at h; cases h
    | some F=>rw [hr] at h; cases h; exact .c (rB hr)
theorem Fun.en {f:FuncId} {fn:Func} {c:Code} {z:Nat} {vs:List Value} {q:List HA} {φ:IH→Value→List HA→Prop} (hf:P.funcs[f]? = some fn) (hn:fn.ntmps=z) (h:(fn.body,Nat.ble vs.length z,rA 0 vs)=(some c,true,some E))
    (k:∀ w M,Cod P c ⟨z,[],none⟩ E (Sym w M I I q) (HM P fn (QE w M I φ))):Fun P f vs.toArray I q φ:=by
  injection h with h1 h; injection h with h2 h3; exact .enter hf h1 hn h2 (rB h3) k
theorem Cod.r1 {z t:Nat} {v:Value} {fn:Func} {ψ:IH→Value→Prop} (hr:fn.results=[ResultVar.tmp t].toArray) (h:(look E t,fun a w=>Q .ret a w)=(some v,HM P fn (QE w0 M I0 fun I' v l=>l=[]∧ψ I' v) .ret)) (hle:I0.le I) (hψ:ψ I v) :
    Cod P .ret ⟨z,[],none⟩ E (Sym w0 M I0 I m) Q:=by
  injection h with h1 h2; exact .ret fun c w ho hs=>(congrFun (congrFun h2 c) w).mpr (BZ hr (.t h1 .n) hle hψ c w ho hs)
theorem Cod.r0 {z t:Nat} {v:Value} {fn:Func} {ψ:IH→Value→Prop} (hr:fn.results=[ResultVar.tmp t].toArray) (h:(look E t,fun a w=>Q .ret a w)=(some v,HM P fn (QE w0 M I fun I' v l=>l=[]∧ψ I' v) .ret)) (hψ:ψ I v) :
    Cod P .ret ⟨z,[],none⟩ E (Sym w0 M I I m) Q:=.r1 hr h rf hψ
theorem Cod.q1 {z t:Nat} {v:Value} {fn:Func} {φ:IH→Value→List HA→Prop} (hr:fn.results=[ResultVar.tmp t].toArray) (hle:I0.le I) (ps:List Nat) (h:(look E t,pkL ps m,fun a w=>Q .ret a w)=(some v,some m',HM P fn (QE w0 M I0 φ) .ret)) (hφ:φ I v m') :
    Cod P .ret ⟨z,[],none⟩ E (Sym w0 M I0 I m) Q:=by
  injection h with h1 h; injection h with h2 h3; exact .ret fun c w ho hs=>(congrFun (congrFun h3 c) w).mpr (MT hr (.t h1 .n) hle (.o ps h2) hφ c w ho hs)
end Go.Fw
