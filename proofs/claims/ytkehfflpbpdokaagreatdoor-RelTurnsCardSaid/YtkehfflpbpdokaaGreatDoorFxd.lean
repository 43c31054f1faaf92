/-
 Ground, fourth text: what reads and effects ask, and that it is enough.
-/
import Derived.Test.YtkehfflpbpdokaaGreatDoorFxc
open Array renaming ext'->NF,range->Sa
open Bool renaming noConfusion->Oq
open ByteArray renaming empty->MU
open Go.Builtin renaming append_->Ks,copy_->Li,delete_->LJ,clear_->Qi,len_->Si
open Go.Deferred renaming ofValue->Nn
open Go.Instr renaming lookup->LC,storeAt->LD,buildSlice->Me,mapUpdate->Ml,sureAddr->Mt,fill->M0,makeMap->Qq,loadAt->QR,alloc->Sz,box->SR
open Go.Made renaming depth->Qa
open Go.Result renaming andThen_ok->KZ
open Go.Sem renaming run_bind->KW,run_pure->Lm
open List renaming foldl_cons->Nh
open Nat renaming le_refl->Kl,blt->L5
open Option renaming isSome_iff_exists->Ni
namespace Go.Proofs.YtkehfflpbpdokaaGreatDoor
def Eu (H:aa)(m:Option Nat)(n:Nat):Prop:=match m with|none=>n=0|some r=>∃es clk,H[r]?=some (.map es clk)/\es.size=n
def zz (H:aa)(m:Option Nat)(K:Nat->Prop):Prop:=∃n,Eu H m n/\K n
def HU (G:aa->Prop)(m:Option Nat)(K:Nat->Prop):Prop:=∃n,(∀H',G H'->Eu H' m n)/\K n
def gv (H:aa)(a:Option Addr)(n:Nat)(s:ByteArray):Prop:=
 match a with
 |none=>s=MU
 |some ad=>s.size=n/\∀i,i<n->bI H (ad.add i)=some (.int .u8 ((ca s i).toNat:Int))
def Hv (H:aa)(a:Option Addr)(n:Nat)(K:ByteArray->Prop):Prop:=∃s,gv H a n s/\K s
def IM (G:aa->Prop)(a:Option Addr)(n:Nat)(K:ByteArray->Prop):Prop:=∃s,(∀H',G H'->gv H' a n s)/\K s
def oL (P:Program)(op:Op)(ty:TypeId)(ρ:Operand->Value)(M:Option (aa->Prop))(H:aa)(K:Value->Prop):Prop:=
 match op with
 |.load t x=>(match P.underlying t with
   |some (.struct _)|some (.array _ _)=>(match P.info? t with
     |some inf=>(match ρ x with
       |.pointer p=>ae p λa=>(match M with
         |none=>jq (jn P t) inf.size H a λu=>K ((jn P t).enc u)
         |some G=>Ir (jn P t) inf.size G a λu=>K ((jn P t).enc u))
       |_=>False)
     |none=>False)
   |some _=>(match ρ x with
     |.pointer p=>ae p λa=>(match M with
       |none=>ld (jn P t) H a λu=>K ((jn P t).enc u)
       |some G=>cP (jn P t) G a λu=>K ((jn P t).enc u))
     |_=>False)
   |none=>False)
 |.call {callee:=.builtin .len,args,argTypes}=>(match (argTypes[0]?),(args[0]?) with
   |some t,some x=>(match P.underlying t with
     |some (.map _ _)=>(match ρ x with
       |.map m=>(match M with
         |none=>zz H m λn=>K (.int .i64 (n:Int))
         |some G=>HU G m λn=>K (.int .i64 (n:Int)))
       |_=>False)
     |_=>False)
   |_,_=>False)
 |.convert src dst x=>(match P.underlying src,P.underlying dst with
   |some (.slice e),some .string=>(match P.underlying e with
     |some (.int .u8)=>(match ρ x with
       |.slice a n _=>(match M with
         |none=>Hv H a n λs=>K (.string s)
         |some G=>IM G a n λs=>K (.string s))
       |_=>False)
     |_=>False)
   |_,_=>False)
 |.lookup t x ix ok=>(match M with
   |none=>AD (fX P ty) P (LC t (ρ x) (ρ ix) ok) H λu=>K ((fX P ty).enc u)
   |some G=>HS (fX P ty) P (LC t (ρ x) (ρ ix) ok) G λu=>K ((fX P ty).enc u))
 |.binOp op t x y _=>(match M with
   |none=>AD aw P (do eqGuard op t x y (ρ x) (ρ y);binOp op t (ρ x) (ρ y)) H λu=>K (.bool u)
   |some G=>HS aw P (do eqGuard op t x y (ρ x) (ρ y);binOp op t (ρ x) (ρ y)) G λu=>K (.bool u))
 |_=>False
theorem Au {P:Program}{w:World}{a:Addr}{n:Nat}{v:Value}(h:kL w.heap a n v):∃cs,v=.agg cs/\(loadCells a n).run P w=.ok cs w:=by
 obtain⟨cs,rfl,hs,hc⟩:=h
 refine⟨cs,rfl,?_⟩
 have:=run_loadCells_list (P:=P) w a cs.toList (λj v hj=>by
  have hlt:j<cs.size:=by
   have:=(List.getElem?_eq_some_iff.1 hj).1;simpa using this
  have h1:=hc j (by omega)
  have h2:cs[j]?=some v:=by simpa using hj
  exact(show w.cell? (a.add j)=cs[j]? from h1).trans h2)
 simpa[hs] using this
theorem wi {P:Program}{w:World}{a:Option Addr}{n c:Nat}{s:ByteArray}(h:gv w.heap a n s):(Conv.bytesToString (.slice a n c)).run P w=.ok (.string s) w:=by
 cases a with
 |none=>simp only[gv] at h;subst h;rfl
 |some ad=>
   obtain⟨h1,h2⟩:=h
   have e:(loadCells ad n).run P w=.ok (((List.range n).map λj=>((ca s j).toNat:Int)).map (Value.int .u8)).toArray w:=by
    rw[run_loadCells w ad n (λj=>.int .u8 ((ca s j).toNat:Int)) (λj hj=>h2 j hj),List.map_map];rfl
   rw[run_bytesToString w ad n c _ e]
   congr 2
   have key:∀(l:List Nat) (r:ByteArray),(l.map λj=>((ca s j).toNat:Int)).foldl (λr n=>r.push (UInt8.ofNat n.toNat)) r=l.foldl (λr j=>r.push (ca s j)) r:=by
    intro l
    induction l with
    |nil=>intro r;rfl
    |cons x l ih=>intro r;simp only[List.map_cons,Nh];rw[ih];simp
   rw[key]
   have key2:∀(l:List Nat) (r:ByteArray),(l.foldl (λr j=>r.push (ca s j)) r).data.toList=r.data.toList++l.map (ca s):=by
    intro l
    induction l with
    |nil=>intro r;simp
    |cons x l ih=>intro r;rw[Nh,ih];simp[ByteArray.push]
   apply ByteArray.ext
   apply NF
   rw[key2]
   apply List.ext_getElem?
   intro i
   have hs:s.data.size=n:=h1
   have e0:MU.data.toList=[]:=rfl
   rw[e0,List.nil_append]
   by_cases hi:i<n
   ·simp[hi,ca,hs]
   ·simp[hi,hs]
theorem iv {P:Program}{o:Oper}{ρ:Operand->Value}{M:Option (aa->Prop)}{H:aa}{K:Value->Prop}(h:oL P o.op o.type ρ M H K):
  ∃v,(∀w:World,II M H w.heap->(execOp ρ o).run P w=.ok (.value v) w)/\K v:=by
 obtain⟨dst,op,type,pos,after,guard⟩:=o
 simp only at h
 have one:∀{t:TypeId} {p:Addr} {v:Value} {x:Operand},ρ x=.pointer (some p)->(∃d,P.underlying t=some d/\(∀fs,d≠.struct fs)/\(∀n e,d≠.array n e))->
   ∀w:World,bI w.heap p=some v->(execOp ρ ⟨dst,.load t x,type,pos,after,guard⟩).run P w=.ok (.value v) w:=by
  rintro t p v x hx ⟨d,hd,h1,h2⟩ w hc
  have hc':w.cell? p=some v:=hc
  have ha:(isAgg t).run P w=.ok false w:=by
   simp only[isAgg,KW,aC hd,KZ]
   cases d<;>first|rfl|exact absurd rfl (h1 _)|exact absurd rfl (h2 _ _)
  simp[execOp,QR,hx,Mt,loadVar,ha,hc']
 have many:∀{t:TypeId} {p:Addr} {v:Value} {x:Operand} {inf:TypeInfo},ρ x=.pointer (some p)->P.info? t=some inf->(∃d,P.underlying t=some d/\((∃fs,d=.struct fs)\/∃n e,d=.array n e))->
   ∀w:World,kL w.heap p inf.size v->(execOp ρ ⟨dst,.load t x,type,pos,after,guard⟩).run P w=.ok (.value v) w:=by
  rintro t p v x inf hx hi ⟨d,hd,h1⟩ w hr
  obtain⟨cs,rfl,hl⟩:=Au (P:=P) hr
  have ha:(isAgg t).run P w=.ok true w:=by
   simp only[isAgg,KW,aC hd,KZ]
   rcases h1 with ⟨fs,rfl⟩|⟨n,e,rfl⟩<;>rfl
  simp[execOp,QR,hx,Mt,loadVar,ha,cj hi,hl]
 unfold oL at h
 split at h
 ·rename_i t x
  split at h
  ·rename_i fs hu
   split at h
   ·rename_i inf hi
    split at h
    ·rename_i p hx
     have hk:=ee h;clear h;obtain⟨a,rfl,h⟩:=hk
     cases M with
     |none=>obtain⟨u,h1,h2⟩:=h;exact⟨_,λw hw=>many hx hi ⟨_,hu,.inl ⟨_,rfl⟩⟩ w (by rw[show w.heap=H from hw];exact h1),h2⟩
     |some G=>obtain⟨u,h1,h2⟩:=h;exact⟨_,λw hw=>many hx hi ⟨_,hu,.inl ⟨_,rfl⟩⟩ w (h1 _ hw),h2⟩
    ·exact h.elim
   ·exact h.elim
  ·rename_i n e hu
   split at h
   ·rename_i inf hi
    split at h
    ·rename_i p hx
     have hk:=ee h;clear h;obtain⟨a,rfl,h⟩:=hk
     cases M with
     |none=>obtain⟨u,h1,h2⟩:=h;exact⟨_,λw hw=>many hx hi ⟨_,hu,.inr ⟨_,_,rfl⟩⟩ w (by rw[show w.heap=H from hw];exact h1),h2⟩
     |some G=>obtain⟨u,h1,h2⟩:=h;exact⟨_,λw hw=>many hx hi ⟨_,hu,.inr ⟨_,_,rfl⟩⟩ w (h1 _ hw),h2⟩
    ·exact h.elim
   ·exact h.elim
  ·rename_i d n1 n2 hu
   split at h
   ·rename_i p hx
    have hk:=ee h;clear h;obtain⟨a,rfl,h⟩:=hk
    have hd:∃d,P.underlying t=some d/\(∀fs,d≠.struct fs)/\(∀n e,d≠.array n e):=⟨_,hu,λfs e=>n1 fs e,λn e e2=>n2 n e e2⟩
    cases M with
    |none=>obtain⟨u,h1,h2⟩:=h;exact⟨_,λw hw=>one hx hd w (by rw[show w.heap=H from hw];exact h1),h2⟩
    |some G=>obtain⟨u,h1,h2⟩:=h;exact⟨_,λw hw=>one hx hd w (h1 _ hw),h2⟩
   ·exact h.elim
  ·exact h.elim
 ·rename_i args argTypes
  split at h
  ·rename_i t x ht hx
   split at h
   ·rename_i k e hu
    split at h
    ·rename_i m hm
     have run:∀(n:Nat) (w:World),Eu w.heap m n->(execOp ρ ⟨dst,.call ⟨.builtin .len,args,argTypes⟩,type,pos,after,guard⟩).run P w=.ok (.value (.int .i64 (n:Int))) w:=by
      intro n w hn
      have ea:(args.map ρ)[0]?=some (.map m):=by rw[Array.getElem?_map,hx,Option.map_some,hm]
      have eb:(Si argTypes type (args.map ρ)).run P w=.ok (goInt n) w:=by
       unfold Si
       simp only[ht,ea]
       cases m with
       |none=>simp only[Eu] at hn;subst hn;simp[aC hu]
       |some r=>
         obtain⟨es,clk,h1,h2⟩:=hn
         simp[aC hu,run_getObj_map w r es clk h1,h2]
      simp[execOp,resolve,invoke,builtin,eb,goInt]
     cases M with
     |none=>obtain⟨n,h1,h2⟩:=h;exact⟨_,λw hw=>run n w (by rw[show w.heap=H from hw];exact h1),h2⟩
     |some G=>obtain⟨n,h1,h2⟩:=h;exact⟨_,λw hw=>run n w (h1 _ hw),h2⟩
    ·exact h.elim
   ·exact h.elim
  ·exact h.elim
 ·rename_i src dst' x
  split at h
  ·rename_i e hs hd
   split at h
   ·rename_i he
    split at h
    ·rename_i a n c hx
     have run:∀(s:ByteArray) (w:World),gv w.heap a n s->(execOp ρ ⟨dst,.convert src dst' x,type,pos,after,guard⟩).run P w=.ok (.value (.string s)) w:=by
      intro s w hb
      simp only[execOp,hx,KW,run_convert_bytes_string w src dst' e a n c hs he hd,wi hb]
      rfl
     cases M with
     |none=>obtain⟨s,h1,h2⟩:=h;exact⟨_,λw hw=>run s w (by rw[show w.heap=H from hw];exact h1),h2⟩
     |some G=>obtain⟨s,h1,h2⟩:=h;exact⟨_,λw hw=>run s w (h1 _ hw),h2⟩
    ·exact h.elim
   ·exact h.elim
  ·exact h.elim
 ·rename_i t x ix ok
  cases M with
  |none=>obtain⟨u,h1,h2⟩:=h;exact⟨_,λw hw=>by simp only[execOp,KW,h1 w hw];rfl,h2⟩
  |some G=>obtain⟨u,h1,h2⟩:=h;exact⟨_,λw hw=>by simp only[execOp,KW,h1 _ hw w rfl];rfl,h2⟩
 ·rename_i op t x y yt
  cases M with
  |none=>
    obtain⟨u,h1,h2⟩:=h
    refine⟨_,λw hw=>?_,h2⟩
    have:=h1 w hw
    simp only[execOp,KW] at this ⊢
    rw[this];rfl
  |some G=>
    obtain⟨u,h1,h2⟩:=h
    refine⟨_,λw hw=>?_,h2⟩
    have:=h1 _ hw w rfl
    simp only[execOp,KW] at this ⊢
    rw[this];rfl
 ·exact h.elim
def dg (P:Program)(f:FuncId):Bool:=match P.funcs[f]? with|some fn=>fn.body.isSome|none=>false
def lD (P:Program):Prop:=∀(f:FuncId) (fn:Func),P.funcs[f]?=some fn->(fn.name=="runtime.NumGoroutine")=false
def yx (P:Program)(el:TypeId)(len:Nat)(parts:List (Nat×Value)):Option (Array Value):=
 match P.info? el with
 |some inf=>(match inf.zero with
   |some z=>bif L5 16777216 (len*inf.size) then none else M0 (λi=>some (i*inf.size,inf.size)) ((Sa (len*inf.size)).map (z.cells[·%z.cells.size]!)) parts
   |none=>none)
 |none=>none
def aM (H:aa)(cells:Array Value)(t:TypeId)(K:Addr->aa->Prop):Prop:=K ⟨H.size,0,none⟩ (H.push (.cells cells t))
def CD (H:aa)(K:Nat->aa->Prop):Prop:=K H.size (H.push (.map #[] 0))
def ck (P:Program)(l:Nat)(args:Array Value)(H:aa)(K:Bool->aa->Prop):Prop:=
 ∀w:World,w.heap=H->mO P ((Instr.yield l args).run P w) λv w'=>∃b,v=.bool b/\K b w'.heap/\Alike w w'
theorem ck.mono {P:Program}{l:Nat}{args:Array Value}{H:aa}{K K':Bool->aa->Prop}(h:ck P l args H K)(hk:∀b H',K b H'->K' b H'):ck P l args H K':=
 λw hw=>fM (λ_ _ ⟨b,e,h1,h2⟩=>⟨b,e,hk _ _ h1,h2⟩) (h w hw)
def Bu (P:Program)(t:TypeId):Bool:=match P.underlying t with|some .bool=>true|_=>false
def gn (g:FuncId)(args:Array Value):Sem Value:=do match <-callFunc g args with|.value v=>pure v|_=>stuck "a call of a function without a body"
theorem vK {P:Program}{g:FuncId}{args:Array Value}{w w':World}{v:Value}(h:(gn g args).run P w=.ok v w'):(callFunc g args).run P w=.ok (.value v) w':=by
 unfold gn at h
 rw[KW] at h
 cases hr:(callFunc g args).run P w with
 |halt x w1=>rw[hr] at h;cases h
 |ok n w1=>
   rw[hr] at h
   simp only[KZ] at h
   cases n<;>simp only at h<;>first|(rw[Lm] at h;cases h;rfl)|cases h
def xS (P:Program)(t:TypeId)(n:String):Option FuncId:=
 match P.underlying t,P.info? t with
 |some (.pointer _),some inf=>(match inf.methods.find? (·.name==n) with
   |some m=>(match m.path.toList,m.func with|[],some (g,true)=>some g|_,_=>none)
   |none=>none)
 |_,_=>none
def wz (c:eJ)(P:Program)(n:String)(l:List Value)(H:aa)(K:c.α->aa->Prop):Prop:=
 match l with
 |.iface t v::r=>(match xS P t n with
   |some g=>(bif dg P g then aj c P g (v::r).toArray H K else False)
   |none=>False)
 |_=>False
theorem xy {P:Program}{t:TypeId}{n:String}{g:FuncId}(h:xS P t n=some g)(v:Value)(w:World):(method (P.types.size+Qa) t v n).run P w=.ok (g,v) w:=by
 unfold xS at h
 split at h
 ·rename_i el inf hu hi
  split at h
  ·rename_i m hm
   split at h
   ·rename_i hp hf
    cases h
    have e:P.types.size+Qa=(P.types.size+Qa - 1)+1:=by
     have:0<Qa:=by decide
     omega
    rw[e]
    unfold method
    simp[typeInfo,hi,hm,hp,hf,follow,receiverAt,aC hu,Place.get]
   ·cases h
  ·cases h
 ·cases h
def Ju (c:eJ)(P:Program)(f:Value)(args:List Value)(H:aa)(K:c.α->aa->Prop):Prop:=
 match f with
 |.func (.func g) first cap=>(bif dg P g then aj c P g ((first.toList++args)++cap.toList).toArray H K
   else bo c P (gn g ((first.toList++args)++cap.toList).toArray) H K)
 |.func (.yield _) _ _=>False
 |.func (.method n) first _=>wz c P n (first.toList++args) H K
 |_=>False
def yd (P:Program)(op:Op)(ty:TypeId)(ρ:Operand->Value)(H:aa)(K:Value->aa->Prop):Prop:=
 match op with
 |.store t x v=>(match P.underlying t with
   |some (.struct _)|some (.array _ _)=>ur P (LD t (ρ x) (ρ v)) H λH'=>K undef H'
   |some _=>(match P.info? t with
     |some inf=>(bif Nat.beq inf.size 1 then (match ρ x with
       |.pointer p=>ae p λa=>st H a (ρ v) λH'=>K undef H'
       |_=>False) else False)
     |none=>False)
   |none=>False)
 |.alloc t=>(match (P.info? t).bind (·.zero) with
   |some _=>aM H (zc P t) t λa H'=>K (.pointer (some a)) H'
   |none=>False)
 |.box t x=>aM H (ρ x).cells t λa H'=>K (.pointer (some a)) H'
 |.buildSlice t len parts=>(match P.underlying t with
   |some (.slice el)=>(match vQ P 5 el with
     |none=>bo ao P (Me t len (parts.toList.map λq=>(q.1,ρ q.2)).toArray) H λu H'=>K u.v H'
     |some _=>(match yx P el len (parts.toList.map λq=>(q.1,ρ q.2)) with
       |some cells=>aM H cells el λa H'=>K (.slice (some a) len len) H'
       |none=>False))
   |_=>False)
 |.makeSlice t l c=>bo ao P (Instr.makeSlice t (ρ l) (ρ c)) H λu H'=>K u.v H'
 |.makeMap _ none=>CD H λr H'=>K (.map (some r)) H'
 |.makeMap t (some r)=>bo cO P (Qq t (some (ρ r))) H λu H'=>K (.map u) H'
 |.mapUpdate t m k v=>ur P (Ml t (ρ m) (ρ k) (ρ v)) H λH'=>K undef H'
 |.insert t m k v=>ur P (Ml t (ρ m) (ρ k) (ρ v)) H λH'=>K undef H'
 |.mapEntry t m k=>bo (fX P ty) P (Instr.mapEntry t (ρ m) (ρ k)) H λu H'=>K ((fX P ty).enc u) H'
 |.entryStore t m s v=>ur P (Instr.entryStore t (ρ m) (ρ s) (ρ v)) H λH'=>K undef H'
 |.range t x=>bo au P (Instr.range t (ρ x)) H λu H'=>K (.pointer u) H'
 |.next x b=>bo mn P (Instr.next (ρ x) b ty) H λu H'=>K (.tuple ⟨.bool u.1::u.2⟩) H'
 |.entry x=>bo wI P (Instr.entry (ρ x)) H λu H'=>K (.tuple ⟨[u.1,u.2]⟩) H'
 |.convert src dst x=>bo (fX P dst) P (convert src dst (ρ x)) H λu H'=>K ((fX P dst).enc u) H'
 |.call {callee:=.builtin b,args,argTypes}=>(match b with
   |.append=>bo ao P (Ks argTypes ty (args.toList.map ρ).toArray) H λu H'=>K u.v H'
   |.copy=>bo (af .i64) P (Li argTypes ty (args.toList.map ρ).toArray) H λu H'=>K (.int .i64 u) H'
   |.delete=>bo iz P (LJ argTypes ty (args.toList.map ρ).toArray) H λu H'=>K u H'
   |.clear=>bo iz P (Qi argTypes ty (args.toList.map ρ).toArray) H λu H'=>K u H'
   |_=>False)
 |.call {callee:=.value f,args,..}=>(match ρ f with
   |.func (.func g) first cap=>(bif dg P g then aj (fX P ty) P g ((first.toList++args.toList.map ρ)++cap.toList).toArray H (λu H'=>K ((fX P ty).enc u) H')
     else bo (fX P ty) P (gn g ((first.toList++args.toList.map ρ)++cap.toList).toArray) H (λu H'=>K ((fX P ty).enc u) H'))
   |.func (.yield l) first _=>(bif Bu P ty then ck P l (first.toList++args.toList.map ρ).toArray H (λb H'=>K (.bool b) H') else False)
   |.func (.method n) first _=>wz (fX P ty) P n (first.toList++args.toList.map ρ) H (λu H'=>K ((fX P ty).enc u) H')
   |_=>False)
 |.call {callee:=.invoke r n,args,..}=>wz (fX P ty) P n (ρ r::args.toList.map ρ) H (λu H'=>K ((fX P ty).enc u) H')
 |_=>False
theorem bW {P:Program}{s:Sem Value}{w:World}{K:Value->aa->Prop}{M:Option (aa->Prop)}{R:Value->World->Prop}
  (h:Bk P s w.heap K) (hK:∀v w',Alike w w'->K v w'.heap->iS M w'.heap/\R v w'):
  mO P ((do pure (.value (<-s)):Sem Next).run P w) (λv w'=>iS M w'.heap/\R v w'):=by
 obtain⟨v,w',h1,h2,h3⟩:=h w rfl
 simp only[KW,h1,KZ,Lm,mO]
 exact hK _ _ h3 h2
theorem iZ {P:Program}{s:Sem Unit}{w:World}{K:Unit->aa->Prop}{M:Option (aa->Prop)}{R:Value->World->Prop}
  (h:Bk P s w.heap K) (hK:∀w',Alike w w'->K () w'.heap->iS M w'.heap/\R undef w'):
  mO P ((do s;pure .skip:Sem Next).run P w) (λv w'=>iS M w'.heap/\R v w'):=by
 obtain⟨v,w',h1,h2,h3⟩:=h w rfl
 simp only[KW,h1,KZ,Lm,mO]
 exact hK _ h3 h2
theorem rQ {P:Program}(hNG:lD P){c:eJ}{n:String}{l:List Value}{cap:Array Value}{w:World}{K:c.α->aa->Prop}{Q:Value->World->Prop}(h:wz c P n l w.heap K)(hQ:∀x w',Alike w w'->K x w'.heap->Q (c.enc x) w'):mO P ((invoke (.fn (.method n) cap) l.toArray).run P w) Q:=by
 unfold wz at h
 split at h
 ·rename_i t v r
  split at h
  ·rename_i g hm
   cases hc:dg P g with
   |false=>rw[hc] at h;exact h.elim
   |true=>
     rw[hc] at h
     simp only[cond_true] at h
     unfold dg at hc
     split at hc
     ·rename_i fn hfn
      obtain⟨body,hb⟩:=Ni.1 hc
      have h1:fn.name≠"runtime.NumGoroutine":=by simpa using hNG _ _ hfn
      have hrun:(invoke (.fn (.method n) cap) (.iface t v::r).toArray).run P w=.ok (.enter g (v::r).toArray) w:=by
       simp[invoke,callMethod,xy hm,callFunc,hfn,h1,hb]
      rw[hrun]
      simp only[mO]
      refine(h w rfl).mono λe w' ⟨v,he,⟨x,hx,hk⟩,ha⟩=>⟨v,he,?_⟩
      subst hx
      exact hQ _ _ ha hk
     ·cases hc
  ·exact h.elim
 ·exact h.elim
theorem ti {P:Program}(hNG:lD P){o:Oper}{ρ:Operand->Value}{M:Option (aa->Prop)}{w:World}{K:Value->aa->Prop}{R:Value->World->Prop}
  (hK:∀v w',Alike w w'->K v w'.heap->iS M w'.heap/\R v w')
  (h:yd P o.op o.type ρ w.heap K):mO P ((execOp ρ o).run P w) (λv w'=>iS M w'.heap/\R v w'):=by
 obtain⟨dst,op,type,pos,after,guard⟩:=o
 simp only at h
 have hKT:∀{c:eJ} {f:c.α->Value},(∀x,f x=c.enc x)->∀v w',Alike w w'->(∃x:c.α,v=c.enc x/\K (f x) w'.heap)->iS M w'.heap/\R v w':=by
  rintro c f hf v w' h1 ⟨x,rfl,h2⟩
  rw[hf] at h2
  exact hK _ _ h1 h2
 unfold yd at h
 split at h
 ·rename_i t x v
  split at h
  ·exact iZ h (λw' h1 h2=>hK _ _ h1 h2)
  ·exact iZ h (λw' h1 h2=>hK _ _ h1 h2)
  ·rename_i d n1 n2 hu
   split at h
   ·rename_i inf hi
    cases hs:Nat.beq inf.size 1 with
    |true=>
      rw[hs] at h
      simp only[cond_true] at h
      split at h
      ·rename_i p hx
       obtain⟨a,rfl,h1,⟨u,h2⟩,h3,h4⟩:=ee h
       have hc:w.cell? a=some u:=h2
       have hf:w.frozen? a=false:=h3
       have hone:(ρ v).cells=#[ρ v]:=by
        generalize ρ v=vv at*
        cases vv<;>first|rfl|exact Oq h1
       have hp:(ρ v).oneCell'=true:=by
        generalize ρ v=vv at*
        cases vv<;>first|rfl|exact Oq h1
       have hsz:inf.size=1:=Nat.eq_of_beq_eq_true hs
       have hrun:(LD t (ρ x) (ρ v)).run P w=.ok () (w.setCell a (ρ v)):=by
        simp[LD,hx,Mt,storeVar,cj hi,hsz,hone,storeCells,Addr.add,run_store P w a (ρ v) .plain hp,hc,hf]
       simp only[execOp,KW,hrun,KZ,Lm,mO]
       exact hK _ (w.setCell a (ρ v)) (.of_le rfl (Kl _)) h4
      ·exact h.elim
    |false=>rw[hs] at h;exact h.elim
   ·exact h.elim
  ·exact h.elim
 ·rename_i t
  split at h
  ·rename_i z hz
   obtain⟨inf,hi,hz'⟩:=Option.bind_eq_some_iff.1 hz
   have e:zc P t=z.cells:=by unfold zc;rw[hz]
   have hrun:(Sz t true (.tuple #[])).run P w=.ok (.pointer (some ⟨w.heap.size,0,none⟩)) {w with heap:=w.heap.push (.cells (zc P t) t)}:=by
    rw[e];simp[Sz,zeroValue,typeInfo,hi,hz',newVar,newRow]
   simp only[execOp,KW,hrun,KZ,Lm,mO]
   exact hK _ {w with heap:=w.heap.push (.cells (zc P t) t)} (.of_le rfl (Kl _)) h
  ·exact h.elim
 ·rename_i t x
  have hrun:(SR t (ρ x)).run P w=.ok (.pointer (some ⟨w.heap.size,0,none⟩)) {w with heap:=w.heap.push (.cells (ρ x).cells t)}:=by
   simp[SR,newVar,newRow]
  simp only[execOp,KW,hrun,KZ,Lm,mO]
  exact hK _ {w with heap:=w.heap.push (.cells (ρ x).cells t)} (.of_le rfl (Kl _)) h
 ·rename_i t len parts
  split at h
  ·rename_i el hu
   split at h
   ·have e:(parts.toList.map λq=>(q.1,ρ q.2)).toArray=parts.map λ(i,x)=>(i,ρ x):=by apply NF;simp
    rw[e] at h
    exact bW h (hKT (λ_=>rfl))
   split at h
   ·rename_i cells hb
    unfold yx at hb
    split at hb
    ·rename_i inf hi
     split at hb
     ·rename_i z hz
      have hrun:(Me t len (parts.map λ(i,x)=>(i,ρ x))).run P w=.ok (.slice (some ⟨w.heap.size,0,none⟩) len len) {w with heap:=w.heap.push (.cells cells el)}:=by
       have hl:(parts.map λ(i,x)=>(i,ρ x)).toList=parts.toList.map λq=>(q.1,ρ q.2):=by simp
       have hbl:L5 16777216 (len*inf.size)=false:=by
        cases hb3:L5 16777216 (len*inf.size) with
        |false=>rfl
        |true=>rw[hb3] at hb;cases hb
       rw[hbl] at hb
       simp only[cond_false] at hb
       have hbig:¬(len*inf.size>2^24):=by
        intro h9
        have:L5 16777216 (len*inf.size)=true:=Nat.ble_eq_true_of_le (by omega)
        rw[hbl] at this;cases this
       have e0:∀f:Nat->Value,(Sa 0).map f=#[]:=λf=>Array.eq_empty_of_size_eq_zero (by simp)
       by_cases h0:len*inf.size=0
       ·have hb2:M0 (λi=>some (i*inf.size,inf.size)) #[] (parts.toList.map λq=>(q.1,ρ q.2))=some cells:=by
         rw[h0,e0] at hb;exact hb
        simp[Me,aC hu,cj hi,h0,e0,hb2,newRow]
       ·simp[Me,aC hu,cj hi,hbig,h0,zeroValue,typeInfo,hi,hz,hb,newRow]
      simp only[execOp,KW,hrun,KZ,Lm,mO]
      exact hK _ {w with heap:=w.heap.push (.cells cells el)} (.of_le rfl (Kl _)) h
     ·cases hb
    ·cases hb
   ·exact h.elim
  ·exact h.elim
 ·rename_i t l c
  exact bW h (hKT (λ_=>rfl))
 ·rename_i t
  have hrun:(Qq t none).run P w=.ok (.map (some w.heap.size)) {w with heap:=w.heap.push (.map #[] 0)}:=by
   simp[Qq]
  simp only[execOp,Option.map_none,KW,hrun,KZ,Lm,mO]
  exact hK _ {w with heap:=w.heap.push (.map #[] 0)} (.of_le rfl (Kl _)) h
 ·exact bW h (hKT (λ_=>rfl))
 ·exact iZ h (λw' h1 h2=>hK _ _ h1 h2)
 ·exact iZ h (λw' h1 h2=>hK _ _ h1 h2)
 ·exact bW h (hKT (λ_=>rfl))
 ·exact iZ h (λw' h1 h2=>hK _ _ h1 h2)
 ·exact bW h (hKT (λ_=>rfl))
 ·exact bW h (hKT (c:=mn) (λ_=>rfl))
 ·exact bW h (hKT (c:=wI) (λ_=>rfl))
 ·exact bW h (hKT (λ_=>rfl))
 ·rename_i b args argTypes
  have em:(args.toList.map ρ).toArray=args.map ρ:=by apply NF;simp
  rw[em] at h
  split at h
  ·exact bW h (hKT (λ_=>rfl))
  ·exact bW h (hKT (λ_=>rfl))
  ·exact bW h (hKT (c:=iz) (λ_=>rfl))
  ·exact bW h (hKT (c:=iz) (λ_=>rfl))
  ·exact h.elim
 ·rename_i f args argTypes
  split at h
  ·rename_i g first cap hf
   cases hc:dg P g with
   |true=>
     rw[hc] at h
     simp only[cond_true] at h
     unfold dg at hc
     split at hc
     ·rename_i fn hfn
      obtain⟨body,hb⟩:=Ni.1 hc
      have hrun:(callFunc g ((first++args.map ρ)++cap)).run P w=.ok (.enter g ((first++args.map ρ)++cap)) w:=by
       have h1:fn.name≠"runtime.NumGoroutine":=by simpa using hNG _ _ hfn
       simp[callFunc,hfn,h1,hb]
      have e:((first.toList++args.toList.map ρ)++cap.toList).toArray=(first++args.map ρ)++cap:=by
       apply NF;simp
      rw[e] at h
      simp only[execOp,resolve,hf,Nn,pure_bind,invoke]
      rw[hrun]
      simp only[mO]
      refine(h w rfl).mono λe w' ⟨v,he,⟨x,hx,hk⟩,ha⟩=>⟨v,he,?_⟩
      subst hx
      exact hK _ _ ha hk
     ·cases hc
   |false=>
     rw[hc] at h
     simp only[cond_false] at h
     have e:((first.toList++args.toList.map ρ)++cap.toList).toArray=(first++args.map ρ)++cap:=by
      apply NF;simp
     rw[e] at h
     obtain⟨v,w',h1,⟨x,h2,h3⟩,h4⟩:=h w rfl
     have h5:=vK h1
     simp only[execOp,resolve,hf,Nn,pure_bind,invoke]
     rw[h5]
     simp only[mO]
     subst h2
     exact hK _ _ h4 h3
  ·rename_i l first cap hf
   cases hbt:Bu P type with
   |false=>rw[hbt] at h;exact h.elim
   |true=>
   rw[hbt] at h
   simp only[cond_true] at h
   have e:(first.toList++args.toList.map ρ).toArray=first++args.map ρ:=by apply NF;simp
   rw[e] at h
   simp only[execOp,resolve,hf,Nn,pure_bind,invoke]
   refine fM ?_ (h w rfl)
   rintro v w' ⟨b,rfl,h1,h2⟩
   exact hK _ _ h2 h1
  ·rename_i n first cap hf
   have e:(first.toList++args.toList.map ρ).toArray=first++args.map ρ:=by apply NF;simp
   simp only[execOp,resolve,hf,Nn,pure_bind]
   rw[<-e]
   exact rQ hNG h λx w' ha hk=>hK _ _ ha hk
  ·exact h.elim
 ·rename_i r n args argTypes
  have e:#[ρ r]++args.map ρ=(ρ r::args.toList.map ρ).toArray:=by apply NF;simp
  simp only[execOp,resolve,pure_bind]
  rw[e]
  exact rQ hNG h λx w' ha hk=>hK _ _ ha hk
 ·exact h.elim
end Go.Proofs.YtkehfflpbpdokaaGreatDoor
